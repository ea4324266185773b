/- Soft: list. -/
import Derived.Test.YtojeombljhmkaaaSoftU
namespace Go.Proofs.Ytojeombljhmkaaa
open Go.RowKit Go.Shelf
set_option linter.unusedVariables false
set_option linter.unusedSimpArgs false
attribute [local go_sem] Oper.semAt_some
theorem equalIn_nilFunc {P : Program} (d : Nat) (t : TypeId) {x : Array TypeId} {y : Array TypeId} {z : Bool} (h : P.underlying t = some (.func x y z)) (fn : Fn) (a b : Array Value) (W : World) : (Op.equalIn (d + 1) t (.func fn a b) .nilFunc).run P W = .ok false W := by
  simp [Op.equalIn, run_underlying h]
theorem eql_nilFunc (fn : Fn) (a b : Array Value) (W : World) : (binOp .eql 56 (.func fn a b) .nilFunc).run Try.prog W = .ok (.bool false) W := by
  simp only [binOp]
  simp [Op.equal, Op.maxDepth, equalIn_nilFunc 9999 56 Try.underlying56]
theorem own_keepX {p N : Nat} {w X : World} {base e k n : Nat} {v : Value} {cs : List Value} (h : w.ownsRow base e k v n cs) (hX : KeepX p N w X) (hp : p < base) (hN : w.heap.size ≤ N) : X.ownsRow base e k v n cs := by
  refine ⟨h.1, ?_⟩
  rcases h.2 with h2 | ⟨g, cap, cur, h1, h2, h3, h4⟩
  · exact .inl h2
  · exact .inr ⟨g, cap, cur, h1, h2, hX g _ (by have := (Array.getElem?_eq_some_iff.1 h3).1; omega) (by omega) h3, h4⟩
set_option maxRecDepth 100000 in
set_option maxHeartbeats 2000000 in
theorem list_gen (w : World) (V : Value) (L : List Th) (hlen : L.length ≤ 1000000)
    (hall : ∀ o, Calls Try.prog 23 #[V] (w.alloc o) fun e w' => ∃ bs u, e = .returned (.func (.func 45) #[] #[.pointer (some ⟨bs, 0, none⟩)]) ∧ AllAt (w.alloc o) w' bs u L) :
    Calls Try.prog 27 #[V] w fun e w' => (∃ v, e = .returned v ∧ w'.ownsRow w.heap.size 35 4 v L.length (L.flatMap Th.cells)) ∧ Below w.heap.size w w' := by
  have HALL := Lib.hid hall
  have hnf := eql_nilFunc
  clear hall
  refine callsIn_wide (n := 12) |>.1 ?_
  refine callsIn_of_wp_marks Try.func27 rfl trivial ?_ rfl
  simp only [Try.ntmps27, List.size_toArray, List.length_cons, List.length_nil, Nat.reduceAdd, Nat.reduceSub, Array.replicate_succ, Array.replicate_zero, List.push_toArray, List.append_toArray, List.nil_append, List.cons_append]
  refine wpIn_wide.2 ?_
  go_wp2_with (go_at_call 23; refine (HALL.out _).mono ?_; rintro e w3 ⟨bs, u, rfl, hA⟩)
  have hb3 : Below w.heap.size w w3 := bl_then (bl_alloc (Below.refl _ _) _) hA.2.2.2
  have hz3 : w.heap.size < w3.heap.size := by have := hA.2.2.2.size; simp at this; omega
  have hx3 : Boxed w3 w.heap.size 45 (.slice none 0 0) := (hA.2.2.2.block w.heap.size (by simp)).trans (Boxed.new w 45 (.slice none 0 0))
  have hst := all_stops 11 (by omega) w.heap.size w3.heap.size bs u L w3 (Nat.le_refl _) hA.2.1 (fun X hX => own_sat (own_keepX hA.2.2.1 hX (by simp) (Nat.le_refl _)))
  clear hA
  refine (wpIn_wide (n := 12)).1 ?_
  refine range_box (p := 11) (q := 5) 35 (by omega) rfl en_allit hst (fun h k => h.trans k) (KeepX.put (by omega)) (KeepX.alloc _ _)
    (fun pre W => ((∃ v, Boxed W (w.heap.size) 45 v ∧ W.ownsRow (w3.heap.size) 35 4 v pre.length (pre.flatMap Th.cells) ∧ True) ∧ KeepX (w.heap.size) (w3.heap.size) w3 W ∧ Below w.heap.size w W) ∧ w3.heap.size ≤ W.heap.size) ?hI ?h0 ?hassign ?hbody ?hsz ?hdone
  case hI => exact OwnFrom.and (OwnFrom.and (Own.from (holdsRow_own (w3.heap.size) (w.heap.size) 45 35 4 (fun pre : List Th => pre.length) (fun pre => pre.flatMap Th.cells) (fun _ _ => True)) _) (OwnFrom.and (ownFrom_keepX (by omega)) (ownFrom_below (n₀ := w.heap.size) (Nat.le_refl _) (by omega)))) (ownFrom_size _ _)
  case h0 => exact ⟨⟨⟨_, hx3, World.ownsRow_nil _ _ _ _, trivial⟩, KeepX.refl _ _ _, hb3⟩, Nat.le_refl _⟩
  case hsz => rintro pre W ⟨-, hB⟩; exact hB
  case hassign =>
    intro l x W K hK
    simp only [Th.cells] at hK ⊢
    gi_wp2
    exact hK
  case hbody =>
    rintro l pre x Bx W ⟨r, hr⟩ hBx hbx ⟨⟨⟨v, hv, hrow, -⟩, hKX, hB⟩, hZ⟩ hlt
    simp only [List.setIfInBounds_toArray, List.set_cons_zero, List.set_cons_succ, Th.cells] at hbx ⊢
    obtain ⟨x0, x1, x2, x3, -, -, -, -⟩ := cells4 hbx
    have hBxl : Bx < W.heap.size := (Array.getElem?_eq_some_iff.1 hbx).1
    obtain ⟨M, hM⟩ : ∃ M, M = pre.length := ⟨_, rfl⟩
    have hMl : M < 1000000 := by omega
    rw [← hM] at hrow
    have HM := Lib.hid hM
    obtain ⟨i0, hi, hz0, hz1, hzz⟩ := elTh.hi
    have c0 := hv.cell
    gi_wp2_with (gi_at_builtin; refine wpListIn_append_own_at _ rfl _ _ 45 rfl (w3.heap.size) 35 i0 (.agg #[.string ⟨#[]⟩, .int .i64 0, .int .i64 0, .int .i64 0]) 4 40 Try.underlying45 hi hz0 hz1 hzz rfl (by decide) _ _ _ rfl (hrow.alloc _) ⟨W.heap.size, 0, none⟩ 1 1 (Th.cells x) rfl rfl ?qc2 ?qc3 ?qc4 ?qc5 ?qc6 ?_)
    case qc2 => exact fun j' u hj' => by rw [Addr.add_lit]; exact RowAt.flat (enc := Th.cells) (k := 4) (fun _ => rfl) (rowAt_new (enc := Th.cells) (k := 4) (fun _ => rfl) W 35 [x] (b := W.heap.size) rfl (by simp [Th.cells])) j' u (by simpa using hj')
    case qc3 => exact fun u hu => th_one x u hu
    case qc4 => unfold maxLen; omega
    case qc5 => omega
    case qc6 => simp; omega
    intro v' w1 hown' hgrow _ hblk
    obtain ⟨A6, c6, rfl⟩ := own_form hown'
    obtain ⟨q1, q2, q3, q4, q5, q6⟩ := box_appended hv (by decide) hrow (by omega) hown' hgrow
    have HF := Lib.hid (And.intro q2 (And.intro q3 (And.intro q4 (And.intro q5 (And.intro q6 (And.intro hB hKX))))))
    have k0 := q1.cell
    have k1 := q1.frozen
    clear q2 q3 q4 q5 q6 hblk hv hrow hKX hB hbx x0 x1 x2 x3 q1 hgrow hown'
    gi_wp2
    obtain ⟨q2, q3, q4, q5, q6, hB, hKX⟩ := HF.out
    rw [show min (w.heap.size) (w3.heap.size) = w.heap.size by omega] at q6
    refine ⟨q4.from _, q5, ⟨⟨_, q2, ?_, trivial⟩, hKX.trans q5, hB.trans (q6.mono (by omega))⟩, by have := q6.size; omega⟩
    rw [List.flatMap_append, List.length_append]
    have hm := HM.out
    subst hm
    simpa using q3
  case hdone =>
    rintro D ys W hD rfl ⟨⟨⟨v, hv, hrow, -⟩, hKX, hB⟩, hZ⟩ hK
    obtain ⟨A7, c7, rfl⟩ := own_form hrow
    have c0 := hv.cell
    have HBB := Lib.hid hB
    have HKD := Lib.hid hK
    have HRO := Lib.hid hrow
    have hDs : D < W.heap.size := (Array.getElem?_eq_some_iff.1 HKD.out).1
    have hwD : w.heap.size ≤ D := by omega
    generalize hN : ys.length = N at *
    have HN := Lib.hid hN
    clear hN
    clear hrow hv hB hK hKX hst hx3 hb3
    go_wp2_with fail
    refine ⟨by simp, .inl ⟨_, _, rfl, run_takeDeferred HKD.out, ?_⟩⟩
    refine ⟨_, results_tmp rfl _ _ _, ⟨_, rfl, ?_⟩, ?_⟩
    · refine own_mono (b0 := w.heap.size) (base := w3.heap.size) ?_ (by omega)
      rw [HN.out]
      show (W.putObj D (.deferred none)).ownsRow _ _ _ (.slice A7 N c7) _ _
      refine HRO.out.kept (row := some D) ?_ (.inr fun e => ?_)
      · exact grownBy_putD _ _ _
      · rcases HRO.out.2 with ⟨h, _⟩ | ⟨g', cap, cur, h, _, hgb, _⟩
        · rw [h] at e
          simp [Value.ownBlock] at e
        · rw [h] at e
          have e' : g' = D := by simpa [Value.ownBlock] using e
          subst e'
          rw [HKD.out] at hgb
          cases hgb
    exact HBB.out.trans (belowK_b (w := w) (Nat.le_refl _) _ D _ _ hwD HKD.out rfl rfl)
theorem list_none (v : Value) (w : World) (h : NoTab w v) :
    Calls Try.prog 27 #[v] w fun e w' => (∃ A k, e = .returned (.slice A 0 k)) ∧ Below w.heap.size w w' := by
  refine (list_gen w v [] (by simp) (fun o => allf_none v _ (h.below (bl_alloc (Below.refl _ _) o)))).mono ?_
  rintro e w' ⟨⟨u, rfl, ho⟩, hb⟩
  obtain ⟨A, k, rfl⟩ := own_form ho
  exact ⟨⟨A, k, rfl⟩, hb⟩
theorem list_all (p r : Nat) (now : Int) (L : List Th) (es : List (Nat × Th)) (w : World) (h : Tb w p r now L es) :
    Calls Try.prog 27 #[.pointer (some ⟨p, 0, none⟩)] w fun e w' => (∃ v, e = .returned v ∧ w'.ownsRow w.heap.size 35 4 v L.length (L.flatMap Th.cells)) ∧ Below w.heap.size w w' :=
  list_gen w _ L (by have := h.few; omega) (fun o => allf_any p r now es L _ (h.below (bl_alloc (Below.refl _ _) o)).tab h.isL (by have := h.len; have := h.few; omega))
end Go.Proofs.Ytojeombljhmkaaa
