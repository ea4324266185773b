/- Soft: sieved over All. -/
import Derived.Test.YtojeombljhmkaaaSoftJ
import Derived.Test.YtojeombljhmkaaaRnd
import Derived.Maps.OwnIn
namespace Go.Proofs.Ytojeombljhmkaaa
open Go.RowKit Go.Shelf
set_option linter.unusedVariables false
set_option linter.unusedSimpArgs false
attribute [local go_sem] Oper.semAt_some
theorem en_allit : ∀ args w, (callFunc 45 args).run Try.prog w = .ok (.enter 45 args) w := enters_of Try.func45 (by kernel_rfl) rfl
theorem ownFrom_keepX {β : Type} {p N B : Nat} {w₀ : World} (hB : N ≤ B) : OwnFrom B (fun (_ : β) W => KeepX p N w₀ W) :=
  fun _ X Y row hs hg hr => fun k o hk hp h0 => by
    have hX := hs k o hk hp h0
    refine (hg.block k (Array.getElem?_eq_some_iff.1 hX).1 (fun e => ?_)).trans hX
    have h1 := (hr k e.symm).1
    omega
theorem grownBy_putD (W : World) (D : Nat) (o : Obj) : W.grownBy (W.putObj D o) (some D) := ⟨rfl, rfl, rfl, by simp [World.putObj], fun i hi hne => by
  have : D ≠ i := fun e => hne (by rw [e])
  simp [World.putObj, Array.getElem?_setIfInBounds, this]⟩
theorem all_stops (n : Nat) (hn : 1 ≤ n) (p N bs : Nat) (v : Value) (L : List Th) (w : World) (hN : N ≤ w.heap.size) (hbs : w.cell? ⟨bs, 0, none⟩ = some v) (hS : ∀ X, KeepX p N w X → SAt Th.cells 4 X v L) :
    SeqStopsK Fence.wide n Try.prog 45 #[.pointer (some ⟨bs, 0, none⟩)] (fun x : Th => #[.agg (Th.cells x).toArray]) (KeepX p N) (fun ys => ys = L) (fun pre => pre <+: L) L.length w := fun l J Jx W hW hJ hJx hY h0 =>
  all_it (KeepX p N) (KeepX.refl p N) (fun h k => h.trans k) (KeepX.alloc p N) n hn l bs v L J Jx W hJ hY (bl_cell hW hbs) (fun X hX => hS X ((KeepX.below hW hN).trans hX)) h0
set_option maxRecDepth 100000 in
set_option maxHeartbeats 2000000 in
theorem sieved_any (w0 w : World) (bs : Nat) (u : Value) (L : List Th) (hlen : L.length ≤ 1000000) (hA : AllAt w0 w bs u L) (g : Nat) (cb : Array Value) (eg : ∀ args w, (callFunc g args).run Try.prog w = .ok (.enter g args) w) (pred : Th → Bool)
    (hp : ∀ W, Below w.heap.size w W → ∀ x : Th, Calls Try.prog g (#[.agg (Th.cells x).toArray] ++ cb) W fun e w' => e = .returned (.bool (pred x)) ∧ Below W.heap.size W w') :
    Calls Try.prog 32 #[.func (.func 45) #[] #[.pointer (some ⟨bs, 0, none⟩)], .func (.func g) #[] cb] w fun e w' => (∃ v, e = .returned v ∧ w'.ownsRow w.heap.size 35 4 v (L.filter pred).length ((L.filter pred).flatMap Th.cells)) ∧ Below w.heap.size w w' := by
  have HA := Lib.hid hA
  have HP := Lib.hid hp
  clear hA hp
  refine callsIn_wide (n := 12) |>.1 ?_
  refine callsIn_of_wp_marks Try.func32 rfl trivial ?_ rfl
  simp only [Try.ntmps32, List.size_toArray, List.length_cons, List.length_nil, Nat.reduceAdd, Nat.reduceSub, Array.replicate_succ, Array.replicate_zero, List.push_toArray, List.append_toArray, List.nil_append, List.cons_append]
  refine wpIn_wide.2 ?_
  go_wp2_with fail
  generalize hw3 : World.alloc (World.alloc w (.cells #[.func (.func g) #[] cb] 73)) (.cells #[.slice none 0 0] 45) = w3
  have hz3 : w3.heap.size = w.heap.size + 2 := by rw [← hw3]; simp
  have hb3 : Below w.heap.size w w3 := by rw [← hw3]; repeat (first | exact Below.refl _ _ | refine bl_alloc ?_ _)
  have hcf : w3.cell? ⟨w.heap.size, 0, none⟩ = some (.func (.func g) #[] cb) := by subst hw3; go_simp
  have hx3 : Boxed w3 (w.heap.size + 1) 45 (.slice none 0 0) := by
    rw [← hw3]
    have := Boxed.new (w.alloc (.cells #[.func (.func g) #[] cb] 73)) 45 (.slice none 0 0)
    simpa using this
  have hst := all_stops 11 (by omega) (w.heap.size + 1) (w.heap.size + 2) bs u L w3 (by omega) (bl_cell hb3 HA.out.2.1) (fun X hX => (own_sat HA.out.2.2.1).kept (hX.kept hb3 (by omega) (by omega)))
  clear hw3
  refine (wpIn_wide (n := 12)).1 ?_
  refine range_box (p := 8) (q := 6) 35 (by omega) rfl en_allit hst (fun h k => h.trans k) (KeepX.put (by omega)) (KeepX.alloc _ _)
    (fun pre W => ((∃ v, Boxed W (w.heap.size + 1) 45 v ∧ W.ownsRow (w.heap.size + 2) 35 4 v (pre.filter pred).length ((pre.filter pred).flatMap Th.cells) ∧ True) ∧ KeepX (w.heap.size + 1) (w.heap.size + 2) w3 W ∧ Below w.heap.size w W) ∧ w3.heap.size ≤ W.heap.size) ?hI ?h0 ?hassign ?hbody ?hsz ?hdone
  case hI => exact OwnFrom.and (OwnFrom.and (Own.from (holdsRow_own (w.heap.size + 2) (w.heap.size + 1) 45 35 4 (fun pre : List Th => (pre.filter pred).length) (fun pre => (pre.filter pred).flatMap Th.cells) (fun _ _ => True)) _) (OwnFrom.and (ownFrom_keepX (by omega)) (ownFrom_below (n₀ := w.heap.size) (Nat.le_refl _) (by omega)))) (ownFrom_size _ _)
  case h0 => exact ⟨⟨⟨_, hx3, World.ownsRow_nil _ _ _ _, trivial⟩, KeepX.refl _ _ _, hb3⟩, Nat.le_refl _⟩
  case hsz => rintro pre W ⟨-, hB⟩; exact hB
  case hassign =>
    intro l x W K hK
    simp only [Th.cells] at hK ⊢
    gi_wp2
    exact hK
  case hbody =>
    rintro l pre x Bx W ⟨r, hr⟩ hBx hbx ⟨⟨⟨v, hv, hrow, -⟩, hKX, hB⟩, hZ⟩ hlt
    simp only [List.setIfInBounds_toArray, List.set_cons_zero, List.set_cons_succ, Th.cells] at hbx ⊢
    have hcf' : W.cell? ⟨w.heap.size, 0, none⟩ = some (.func (.func g) #[] cb) := hKX.cell (by omega) (by omega) hcf
    obtain ⟨x0, x1, x2, x3, -, -, -, -⟩ := cells4 hbx
    have hBxl : Bx < W.heap.size := (Array.getElem?_eq_some_iff.1 hbx).1
    gi_wp2_with fail
    refine ⟨trivial, CallsIn.mono (CallsIn.inRound l (callsIn_wide.2 (HP.out W hB x))) ?_⟩
    rintro e W2 ⟨rfl, hbW⟩
    have hz2 := hbW.size
    have hv2 : Boxed W2 (w.heap.size + 1) 45 v := (hbW.block _ hv.lt).trans hv
    have hrow2 := own_lies hrow hbW
    have hB2 : Below w.heap.size w W2 := hB.trans (hbW.mono hB.size)
    have hbx2 : W2.heap[Bx]? = some (.cells #[.string x.name, .int .i64 x.period, .int .i64 x.next, .int .i64 x.forgot] 35 (0, 0)) := (hbW.block Bx hBxl).trans hbx
    have hKX2 : KeepX (w.heap.size + 1) (w.heap.size + 2) W W2 := KeepX.below hbW (by omega)
    have hKF2 : KeepsFrom w3.heap.size W W2 := KeepsFrom.of_grownBy (below_grown hbW) (fun _ e => by cases e)
    cases hpx : pred x with
    | false =>
      have HF := Lib.hid (And.intro hv2 (And.intro hrow2 (And.intro hB2 (And.intro hKX2 hKF2))))
      have HK := Lib.hid hKX
      clear hv2 hrow2 hB2 hKX2 hKF2 hKX hbx2 hv hrow hB hbx x0 x1 x2 x3 hcf'
      gi_wp2
      obtain ⟨hv2, hrow2, hB2, hKX2, hKF2⟩ := HF.out
      refine ⟨hKF2, hKX2, ⟨⟨v, hv2, ?_, trivial⟩, HK.out.trans hKX2, hB2⟩, by omega⟩
      rw [List.filter_append, List.filter_cons_of_neg (by simp [hpx]), List.filter_nil, List.append_nil]
      exact hrow2
    | true =>
      obtain ⟨M, hM⟩ : ∃ M, M = (pre.filter pred).length := ⟨_, rfl⟩
      have hMl : M < 1000000 := by have := List.length_filter_le pred pre; omega
      rw [← hM] at hrow2
      have HM := Lib.hid hM
      obtain ⟨i0, hi, hz0, hz1, hzz⟩ := elTh.hi
      have c0 := hv2.cell
      obtain ⟨x0, x1, x2, x3, -, -, -, -⟩ := cells4 hbx2
      gi_wp2_with (gi_at_builtin; refine wpListIn_append_own_at _ rfl _ _ 45 rfl (w.heap.size + 2) 35 i0 (.agg #[.string ⟨#[]⟩, .int .i64 0, .int .i64 0, .int .i64 0]) 4 40 Try.underlying45 hi hz0 hz1 hzz rfl (by decide) _ _ _ rfl (hrow2.alloc _) ⟨W2.heap.size, 0, none⟩ 1 1 (Th.cells x) rfl rfl ?qc2 ?qc3 ?qc4 ?qc5 ?qc6 ?_)
      case qc2 => exact fun j' u hj' => by rw [Addr.add_lit]; exact RowAt.flat (enc := Th.cells) (k := 4) (fun _ => rfl) (rowAt_new (enc := Th.cells) (k := 4) (fun _ => rfl) W2 35 [x] (b := W2.heap.size) rfl (by simp [Th.cells])) j' u (by simpa using hj')
      case qc3 => exact fun u hu => th_one x u hu
      case qc4 => unfold maxLen; omega
      case qc5 => omega
      case qc6 => simp; omega
      intro v' w1 hown' hgrow _ hblk
      obtain ⟨A6, c6, rfl⟩ := own_form hown'
      obtain ⟨q1, q2, q3, q4, q5, q6⟩ := box_appended hv2 (by decide) hrow2 (by omega) hown' hgrow
      have HF := Lib.hid (And.intro q2 (And.intro q3 (And.intro q4 (And.intro q5 (And.intro q6 (And.intro hB2 (And.intro hKX2 (And.intro hKF2 hKX))))))))
      have k0 := q1.cell
      have k1 := q1.frozen
      clear q2 q3 q4 q5 q6 hblk hv2 hrow2 hB2 hKX2 hKF2 hKX hbx2 hv hrow hB hbx x0 x1 x2 x3 hcf' q1 hgrow hown'
      gi_wp2
      obtain ⟨q2, q3, q4, q5, q6, hB2, hKX2, hKF2, hKX⟩ := HF.out
      rw [show min (w.heap.size + 1) (w.heap.size + 2) = w.heap.size + 1 by omega] at q6
      refine ⟨hKF2.trans (q4.from _), hKX2.trans q5, ⟨⟨_, q2, ?_, trivial⟩, (hKX.trans hKX2).trans q5, hB2.trans (q6.mono (by omega))⟩, by have := q6.size; omega⟩
      rw [List.filter_append, List.filter_cons_of_pos (by simp [hpx]), List.filter_nil, List.flatMap_append, List.length_append]
      have hm := HM.out
      subst hm
      simpa using q3
  case hdone =>
    rintro D ys W hD rfl ⟨⟨⟨v, hv, hrow, -⟩, hKX, hB⟩, hZ⟩ hK
    obtain ⟨A7, c7, rfl⟩ := own_form hrow
    have c0 := hv.cell
    have HBB := Lib.hid hB
    have HKD := Lib.hid hK
    have HRO := Lib.hid hrow
    have hDs : D < W.heap.size := (Array.getElem?_eq_some_iff.1 HKD.out).1
    have hwD : w.heap.size ≤ D := by omega
    generalize hN : (ys.filter pred).length = N at *
    have HN := Lib.hid hN
    clear hN
    clear hrow hv hB hK hKX hst hx3 hb3 hcf
    go_wp2_with fail
    refine ⟨by simp, .inl ⟨_, _, rfl, run_takeDeferred HKD.out, ?_⟩⟩
    refine ⟨_, results_tmp rfl _ _ _, ⟨_, rfl, ?_⟩, ?_⟩
    · refine own_mono (b0 := w.heap.size) (base := w.heap.size + 2) ?_ (by omega)
      rw [HN.out]
      show (W.putObj D (.deferred none)).ownsRow _ _ _ (.slice A7 N c7) _ _
      refine HRO.out.kept (row := some D) ?_ (.inr fun e => ?_)
      · exact grownBy_putD _ _ _
      · rcases HRO.out.2 with ⟨h, _⟩ | ⟨g', cap, cur, h, _, hgb, _⟩
        · rw [h] at e
          simp [Value.ownBlock] at e
        · rw [h] at e
          have e' : g' = D := by simpa [Value.ownBlock] using e
          subst e'
          rw [HKD.out] at hgb
          cases hgb
    exact HBB.out.trans (belowK_b (w := w) (Nat.le_refl _) _ D _ _ hwD HKD.out rfl rfl)
end Go.Proofs.Ytojeombljhmkaaa
