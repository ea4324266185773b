/- Topo: TopoNil. -/
import Derived.Test.YtfifmkjidljeeaaTopoR
import Derived.Test.YtfifmkjidljeeaaTopoF
import Derived.Laws.EntriesVeiled
namespace Go.Proofs.Ytfifmkjidljeeaa
open Go.RowKit Go.Shelf
set_option linter.unusedVariables false
set_option linter.unusedSimpArgs false
attribute [local go_sem] Oper.semAt_some
theorem enc_out1 : ∀ args w, (callFunc 36 args).run Try.prog w = .ok (.enter 36 args) w := enters_of Try.func36 (by kernel_rfl) rfl
/-- 's == nil' at a function value. -/
theorem run_equalIn_func_nil {P : Program} (w : World) (d : Nat) (t : TypeId) (f : Fn) (rs cb : Array Value) {a b c} (h : P.underlying t = some (.func a b c)) :
    (Op.equalIn (d + 1) t (.func f rs cb) .nilFunc).run P w = .ok false w := by
  simp [Op.equalIn, run_underlying h]
theorem run_eql_func_nil {P : Program} (w : World) (t : TypeId) (f : Fn) (rs cb : Array Value) {a b c} (h : P.underlying t = some (.func a b c)) :
    (binOp .eql t (.func f rs cb) .nilFunc).run P w = .ok (.bool false) w := by
  simp only [binOp]
  simp [Op.equal, Op.maxDepth, run_equalIn_func_nil w 9999 t f rs cb h]
set_option maxRecDepth 100000 in
set_option maxHeartbeats 2000000 in
theorem topoNil_any (n node : Int) (w : World) :
    Calls Try.prog 7 #[.int .i64 n, .int .i64 node] w fun e w' => e = .returned (.bool true) ∧ Below w.heap.size w w' := by
  refine callsIn_wide (n := 8) |>.1 ?_
  refine callsIn_of_wp_marks Try.func7 rfl trivial ?_ rfl
  simp only [Try.ntmps7, List.size_toArray, List.length_cons, List.length_nil, Nat.reduceAdd, Nat.reduceSub, Array.replicate_succ, Array.replicate_zero, List.push_toArray, List.append_toArray, List.nil_append, List.cons_append]
  refine wpIn_wide.2 ?_
  have hn0 : ∀ W, NoMap W (.pointer none) := fun W => Or.inl rfl
  go_wp2_with fail
  have hz0 : NoMap ((w.alloc (.cells #[.bool false] 4)).alloc (.cells #[.int .i64 0, .slice none 0 0, .map none] 57)) (.pointer (some ⟨w.heap.size + 1, 0, none⟩)) := Or.inr ⟨_, rfl, by go_simp⟩
  have hr0 : ((w.alloc (.cells #[.bool false] 4)).alloc (.cells #[.int .i64 0, .slice none 0 0, .map none] 57)).cell? ⟨w.heap.size, 0, none⟩ = some (.bool false) := by go_simp
  have hf0 : ((w.alloc (.cells #[.bool false] 4)).alloc (.cells #[.int .i64 0, .slice none 0 0, .map none] 57)).frozen? ⟨w.heap.size, 0, none⟩ = false := by go_simp
  generalize hW0 : (w.alloc (.cells #[.bool false] 4)).alloc (.cells #[.int .i64 0, .slice none 0 0, .map none] 57) = W0 at hz0 hr0 hf0 ⊢
  have hs0 : W0.heap.size = w.heap.size + 2 := by rw [← hW0]; simp
  have hb0 : Below w.heap.size w W0 := hW0 ▸ bl_alloc (bl_alloc (Below.refl _ _) _) _
  clear hW0
  have HX : Hid (∀ X, Below W0.heap.size W0 X → NoMap X (.pointer (some ⟨w.heap.size + 1, 0, none⟩)) ∧ X.cell? ⟨w.heap.size, 0, none⟩ = some (.bool false) ∧ X.frozen? ⟨w.heap.size, 0, none⟩ = false ∧ w.heap.size < X.heap.size) :=
    Lib.hid fun X hX => ⟨hz0.below hX, bl_cell hX hr0, ((bl_cells hX).2 _ _ (by omega)).trans hf0, by have := hX.size; omega⟩
  have HB0 := Lib.hid hb0
  clear hz0 hr0 hf0 hs0 hb0
  refine (link_none _ n _ (hn0 _)).mono ?_
  rintro e w1 ⟨rfl, hb1⟩
  unfold lk0V
  have HB1 := Lib.hid hb1
  clear hb1
  go_wp2_with fail
  obtain ⟨W1, hW1⟩ : ∃ W1, w1.alloc (.cells #[.int .i64 0, .int .i64 0, .int .i64 0, .int .i64 0, .int .i64 0, .int .i64 0, .int .i64 0, .int .i64 0] 23) = W1 := ⟨_, rfl⟩
  have hb1 : Below W0.heap.size W0 W1 := hW1 ▸ bl_alloc HB1.out _
  rw [hW1]
  clear hW1 HB1
  refine (back_none _ n _ (HX.out _ hb1).1).mono ?_
  rintro e w2 ⟨rfl, hb2'⟩
  have HB2 := Lib.hid (bl_then hb1 hb2')
  clear hb2' hb1
  go_wp2_with fail
  refine (terms_none _ n _ (hn0 _)).mono ?_
  rintro e w3 ⟨rfl, hb3'⟩
  have HB3 := Lib.hid (bl_then HB2.out hb3')
  clear hb3' HB2
  go_wp2_with fail
  obtain ⟨W3, hW3⟩ : ∃ W3, w3.alloc (.cells #[.int .i64 0, .int .i64 0] 61) = W3 := ⟨_, rfl⟩
  have hb3 : Below W0.heap.size W0 W3 := hW3 ▸ bl_alloc HB3.out _
  rw [hW3]
  clear hW3 HB3
  refine (between_none _ n node _ (HX.out _ hb3).1).mono ?_
  rintro e w4 ⟨rfl, rfl⟩
  go_wp2_with fail
  refine (out_any _ node _).mono ?_
  rintro e w5 ⟨rfl, hw5⟩
  have hc5 : w5.cell? ⟨W3.heap.size, 0, none⟩ = some (.pointer none) := by subst hw5; go_simp
  have hb5 : Below W0.heap.size W0 w5 := by rw [hw5]; exact bl_alloc (bl_alloc hb3 _) _
  clear hw5
  have HB5 := Lib.hid hb5
  have hen := fun (w : World) (f : Fn) rs cb => run_eql_func_nil (P := Try.prog) w 50 f rs cb Try.underlying50
  clear hb3 hb5
  go_wp2_with fail
  refine (wpIn_wide (n := 8)).1 ?_
  refine wpIn_rangeFunc_ownF rfl (by omega) (gf := 36) (lb := #[.pointer (some ⟨W3.heap.size, 0, none⟩), .pointer (some ⟨W3.heap.size + 1, 0, none⟩)]) rfl trivial enc_out1
    (none_stops 7 W3.heap.size (W3.heap.size + 1) (.pointer none) node w5 (hn0 _) hc5) keepsC_t keepsC_b (Below.refl _ _) (fun _ => rfl)
    (fun _ W => Below w5.heap.size w5 W) (fun _ _ _ => False) (ownFrom_below (Nat.le_refl _) (Nat.le_refl _)) (fun _ _ _ _ _ hs _ _ => hs) (Below.refl _ _) ?a1 ?assign ?body ?done ?stop
  case assign =>
    intro l x W K hK
    gi_wp2
    exact hK
  case body =>
    intro l pre x W _ h
    exact absurd h (Nat.not_lt_zero _)
  case stop =>
    rintro D c pre W _ _ h _
    exact h.elim
  case done =>
    rintro D xs W hD rfl hB hK
    have hBW : Below W0.heap.size W0 W := bl_then HB5.out hB
    obtain ⟨hzW, hcW, hfW, hsW⟩ := HX.out W hBW
    have HXX := Lib.hid hzW
    have HBW := Lib.hid hBW
    have HKD := Lib.hid hK
    have hBs : w.heap.size ≤ w5.heap.size := Nat.le_trans HB0.out.size HB5.out.size
    have hDs : D < W.heap.size := (Array.getElem?_eq_some_iff.1 hK).1
    clear hzW hBW hK hB HB5 hc5 hen
    go_wp2_with (first | (go_at_call 16; refine (nodes_none _ _ (hn0 _)).mono ?_; rintro e w' ⟨rfl, rfl⟩) | (go_at_call 14; refine (len_none _ _ HXX.out).mono ?_; rintro e w' ⟨rfl, rfl⟩) | (go_at_call 20; refine (copy_none _ _ HXX.out).mono ?_; rintro e w' ⟨rfl, rfl⟩) | (go_at_call 19; refine (same_none _ _ _ (hn0 _) HXX.out).mono ?_; rintro e w' ⟨rfl, rfl⟩) | (go_at_call 10; refine (known_any _).mono ?_; rintro e w' ⟨rfl, hbk⟩; have hck := bl_cell hbk hcW; have hfk := ((bl_cells hbk).2 _ 0 hsW).trans hfW; have hsk := hbk.size))
    have hK2 : (w'.setCell ⟨w.heap.size, 0, none⟩ (.bool true)).heap[D]? = some (.deferred (some [])) := (KeepsOthers.setCell _ _ _).same D _ ((hbk.block D hDs).trans HKD.out) rfl
    have hc2 : (w'.setCell ⟨w.heap.size, 0, none⟩ (.bool true)).cell? ⟨w.heap.size, 0, none⟩ = some (.bool true) := World.cell?_setCell_same' _ _ _ (by rw [hck]; rfl)
    have hc3 := cell_kept hc2 (grownBy_putObj' _ D (.deferred none)) (fun r e => by cases e; exact ⟨_, hK2, rfl⟩)
    refine ⟨by simp, .inl ⟨_, _, rfl, run_takeDeferred hK2, ?_⟩⟩
    refine ⟨.bool true, by simp [results, Try.results7, go_sem, hc3], rfl, ?_⟩
    have hb1 : Below w.heap.size w (w'.setCell ⟨w.heap.size, 0, none⟩ (.bool true)) := bl_set ((bl_then HB0.out (bl_then HBW.out hbk))) (Nat.le_refl _) _
    exact hb1.trans (belowK_b (w := w) (Nat.le_refl _) _ D _ _ (by have := HB0.out.size; have := hBs; omega) hK2 rfl rfl)
end Go.Proofs.Ytfifmkjidljeeaa
