/- Soft: SoftCopies, in plain words. -/
import Derived.Test.YtojeombljhmkaaaSoftBQ
namespace Go.Proofs.Ytojeombljhmkaaa
open Go.RowKit Go.Shelf Go.Sort
set_option linter.unusedVariables false
set_option linter.unusedSimpArgs false
attribute [local go_sem] Oper.semAt_some
theorem elAc : ElT Try.prog 43 51 3 32 (.agg #[.int .i64 0, .string ⟨#[]⟩, .int .i64 0]) := ElT.mk' Try.underlying43 (by kernel_rfl) rfl (by decide)
theorem ac_one : ∀ x, ∀ u ∈ Ac.cells x, u.oneCell' = true := fun x u hu => by simp [Ac.cells] at hu; rcases hu with rfl | rfl | rfl <;> rfl
/-- Between two calls, from whatever table on: the document's lies in box q. -/
structure PlayG (w0 : World) (B q p r : Nat) (es0 : List (Nat × Th)) (v0 : Value) (W : World) (now : Int) (L : List Th) (es : List (Nat × Th)) (v : Value) : Prop where
  st : Stp w0 B p r es0 v0 W now L es v
  box : W.heap[q]? = some (.cells #[.int .i64 now, v] 47 (0, 0))
theorem PlayG.below {w0 W W' : World} {B q p r : Nat} {es0 es : List (Nat × Th)} {v0 v : Value} {now : Int} {L : List Th} (h : PlayG w0 B q p r es0 v0 W now L es v) (hb : Below W.heap.size W W') : PlayG w0 B q p r es0 v0 W' now L es v :=
  ⟨h.st.below hb, (hb.block q (Array.getElem?_eq_some_iff.1 h.box).1).trans h.box⟩
/-- What is kept: the blocks from w0's end to B, but the box. -/
def KeptG (w0 : World) (B q : Nat) (A W : World) : Prop := ∀ i, w0.heap.size ≤ i → i < B → i ≠ q → W.heap[i]? = A.heap[i]?
theorem playG_does {w0 wr : World} {B q p r : Nat} {now0 now : Int} {L0 L : List Th} {es0 es : List (Nat × Th)} {v0 v : Value} (a : Ac) (H0 : Two w0 p r now0 L0 es0 v0) (hwq : w0.heap.size ≤ q) (hqB : q < B) (hB : B ≤ wr.heap.size)
    (h : PlayG w0 B q p r es0 v0 wr now L es v) (W : World) (hW : Below wr.heap.size wr W) :
    Calls Try.prog 18 #[.pointer (some ⟨p, 0, none⟩), .agg #[.int .i64 now, v], .agg #[.int .i64 a.kind, .string a.name, .int .i64 a.n]] W fun e w' => ∃ u es', e = .returned (.tuple #[.agg #[.int .i64 (doL now L a).1, u], .bool true]) ∧
      w'.heap[q]? = some (.cells #[.int .i64 now, v] 47 (0, 0)) ∧ (∃ A n c, u = .slice A n c) ∧
      PlayG w0 B q p r es0 v0 ((w'.setCell ⟨q, 0, none⟩ (.int .i64 (doL now L a).1)).setCell ⟨q, 1, none⟩ u) (doL now L a).1 (doL now L a).2 es' u ∧ MovS (fun i => TSet p r es0 i ∨ i = q ∨ B ≤ i) wr ((w'.setCell ⟨q, 0, none⟩ (.int .i64 (doL now L a).1)).setCell ⟨q, 1, none⟩ u) := by
  refine (does_any p r now L es v a W (h.st.two.below hW)).mono ?_
  rintro e w' ⟨u, es', rfl, h1⟩
  have hws := hW.size
  have hlt := H0.tb.tab.lt
  have hkeep : ∀ i, w0.heap.size ≤ i → i < B → w'.heap[i]? = wr.heap[i]? := fun i h2 h3 =>
    (h1.mov.block i (by omega) fun hs => (h.st.grew i hs).elim (fun h4 => by have := hlt i h4; omega) fun h4 => by omega).trans (hW.block i (by omega))
  have hbq := (hkeep q hwq hqB).trans h.box
  have hst := (h.st.below hW).trans H0 (by omega) (by omega) h1
  refine ⟨u, es', rfl, hbq, ?_, ⟨(hst.set H0 (q := ⟨q, 0, none⟩) hwq hqB (.int .i64 (doL now L a).1)).set H0 (q := ⟨q, 1, none⟩) hwq hqB u, (heap_set (heap_set hbq)).trans rfl⟩, ?_⟩
  · obtain ⟨A, c, rfl⟩ := h1.two.sl.slice
    exact ⟨A, _, c, rfl⟩
  · exact (((MovS.ofBelow hW : MovS (fun i => TSet p r es0 i ∨ i = q ∨ B ≤ i) wr W).trans h1.mov fun i _ hi => (h.st.grew i hi).elim .inl fun h4 => .inr (.inr h4)).set (.inr (.inr (.inl rfl)))).set (.inr (.inr (.inl rfl)))
/-- The begin: the box was laid ahead. -/
theorem playG_start {w0 W : World} {B q p r : Nat} {now : Int} {L : List Th} {es : List (Nat × Th)} {v : Value} (H0 : Two w0 p r now L es v) (hb : Below w0.heap.size w0 W) (hB : B ≤ W.heap.size) (hbx : W.heap[q]? = some (.cells #[.int .i64 now, v] 47 (0, 0))) :
    PlayG w0 B q p r es v W now L es v := ⟨(H0.still hb).from hB, hbx⟩
/-- A range over a function that may be left by 'break': where both ways meet. -/
theorem wpIn_meet {F : Fence} {n : Nat} {P : Program} {c : Code} {Q : Exit → Act → World → Prop} {a : Act} {w : World} (R : Nat → World → Prop)
    (h1 : c.wpIn F n P (fun e a' W => e = .normal ∧ ∃ D, a' = { a with defers := { target := .collected D, args := #[] } :: a.defers } ∧ R D W) a w)
    (h2 : ∀ D W, R D W → Q .normal { a with defers := { target := .collected D, args := #[] } :: a.defers } W) : c.wpIn F n P Q a w :=
  wpIn_mono h1 fun e a' W ⟨he, D, ha, hR⟩ => by subst he; subst ha; exact h2 D W hR
/-- Between two rounds of the range: so many have come, which begin the list, fewer than asked for. -/
def GoI (ib : Nat) (w8 : World) (L : List Th) (many : Int) (pre : List Th) (W : World) : Prop :=
  (Below ib w8 W ∧ W.cell? ⟨ib, 0, none⟩ = some (.int .i64 (pre.length : Nat)) ∧ W.frozen? ⟨ib, 0, none⟩ = false) ∧ pre <+: L ∧ (pre.length : Int) < many
def GoX (ib : Nat) (w8 : World) (L : List Th) (many : Int) (c : Code) (pre : List Th) (W : World) : Prop :=
  (c = .ret ∧ ¬ pre <+: L) ∨ (c = .exit 2 ∧ Below ib w8 W ∧ W.cell? ⟨ib, 0, none⟩ = some (.int .i64 (pre.length : Nat)) ∧ W.frozen? ⟨ib, 0, none⟩ = false ∧ pre <+: L ∧ (pre.length : Int) = many)
theorem goI_own {ib : Nat} {w8 : World} {L : List Th} {many : Int} (h : ib ≤ w8.heap.size) : OwnFrom w8.heap.size (GoI ib w8 L many) :=
  OwnFrom.and (OwnFrom.and (ownFrom_below h h) (Own.from (fun s A B row hs hg hr => ⟨cell_kept hs.1 hg hr, (frozen_kept hs.1 hg hr).trans hs.2⟩) _)) (ownFrom_pure _ (fun pre : List Th => pre <+: L ∧ (pre.length : Int) < many))
theorem goX_own {ib : Nat} {w8 : World} {L : List Th} {many : Int} (h : ib ≤ w8.heap.size) (c : Code) : OwnFrom w8.heap.size (GoX ib w8 L many c) := by
  intro s A B row hs hg hr
  rcases hs with h1 | ⟨h1, hB, hc, hf, h2⟩
  · exact Or.inl h1
  · exact Or.inr ⟨h1, ownFrom_below (β := Unit) h h () A B row hB hg hr, cell_kept hc hg (fun r e => (hr r e).2), (frozen_kept hc hg (fun r e => (hr r e).2)).trans hf, h2⟩
theorem pre_snoc {α : Type} {pre out : List α} {x : α} (h : pre <+: out) (hx : out[pre.length]? = some x) : pre ++ [x] <+: out := by
  obtain ⟨t, rfl⟩ := h
  rw [List.getElem?_append_right (Nat.le_refl _), Nat.sub_self] at hx
  cases t with
  | nil => simp at hx
  | cons y t =>
    simp at hx
    subst hx
    exact ⟨t, by simp⟩
theorem pre_get {α : Type} {pre out : List α} {x : α} (h : pre ++ [x] <+: out) : out[pre.length]? = some x := by
  obtain ⟨t, rfl⟩ := h
  simp
theorem sat_keepX {α : Type} {enc : α → List Value} {k p N : Nat} {w X : World} {v : Value} {xs : List α} (h : SAt enc k w v xs) (hX : KeepX p N w X) (hv : ∀ j, v.ownBlock = some j → j ≠ p ∧ j < N) : SAt enc k X v xs := by
  rcases h with h | ⟨b, o, c, h1, h2, h3, h4⟩
  · exact .inl h
  · obtain ⟨h5, h6⟩ := hv b (by rw [h1]; rfl)
    exact .inr ⟨b, o, c, h1, h2, h3, fun j x hj i u hi => hX.cell h6 h5 (h4 j x hj i u hi)⟩
theorem mov_last {B : Nat} {w W : World} (h : Below B w W) (hB : w.heap.size ≤ B + 1) : MovS (· = B) w W := ⟨h.os, h.tape, h.output, h.size, fun i hi hn => h.block i (by omega)⟩
theorem boxed_mov {S : Nat → Prop} {w W : World} {b : Nat} {t : TypeId} {v : Value} (h : Boxed w b t v) (hm : MovS S w W) (hS : ¬ S b) : Boxed W b t v := (hm.block b (Array.getElem?_eq_some_iff.1 h).1 hS).trans h
theorem boxed_blw {w W : World} {b : Nat} {t : TypeId} {v : Value} (h : Boxed w b t v) (hm : Below w.heap.size w W) : Boxed W b t v := (hm.block b (Array.getElem?_eq_some_iff.1 h).1).trans h
theorem go_set {ib : Nat} {w8 W : World} {v : Value} (hB : Below ib w8 W) (hc : W.cell? ⟨ib, 0, none⟩ = some v) (hf : W.frozen? ⟨ib, 0, none⟩ = false) (u : Value) :
    Below ib w8 (W.setCell ⟨ib, 0, none⟩ u).drew ∧ (W.setCell ⟨ib, 0, none⟩ u).drew.cell? ⟨ib, 0, none⟩ = some u ∧ (W.setCell ⟨ib, 0, none⟩ u).drew.frozen? ⟨ib, 0, none⟩ = false ∧ KeepsOthers W (W.setCell ⟨ib, 0, none⟩ u).drew ∧ KeepX ib (ib + 1) W (W.setCell ⟨ib, 0, none⟩ u).drew :=
  ⟨bl_drew (hB.setCell (p := ⟨ib, 0, none⟩) (Nat.le_refl _) _), World.cell?_setCell_same' _ _ _ (by rw [hc]; rfl), (World.frozen?_setCell _ _ _ _).trans hf, ⟨(KeepsOthers.setCell W ⟨ib, 0, none⟩ u).size, (KeepsOthers.setCell W ⟨ib, 0, none⟩ u).same⟩,
   fun i o hi hp ho => (heap_set_other hp).trans ho⟩
/-- What all later ones name waits for them: no way is searched. -/
theorem late_direct {md : Region.Mode} {ops : Array Oper} {m i : Nat} (h : (decide (i < m) && (List.range ops.size).all fun j => decide (j < m) || match ops[j]? with | some o => o.after.any (fun e => Region.binds md e && e.on == i) | none => false) = true) : lateB md ops m i = true := by
  unfold lateB
  rw [Bool.and_eq_true] at h ⊢
  refine ⟨h.1, ?_⟩
  rw [List.all_eq_true] at h ⊢
  intro j hj
  have h1 := h.2 j hj
  rw [Bool.or_eq_true] at h1 ⊢
  refine h1.imp (fun h => h) fun h2 => ?_
  have hs : 0 < ops.size := by have := List.mem_range.1 hj; omega
  obtain ⟨k, hk⟩ : ∃ k, ops.size = k + 1 := ⟨ops.size - 1, by omega⟩
  rw [hk]
  cases ho : ops[j]? with
  | none => rw [ho] at h2; cases h2
  | some o =>
    rw [ho] at h2
    unfold waitsT
    rw [ho]
    obtain ⟨e, he, hb⟩ := Array.any_eq_true'.1 h2
    rw [Bool.and_eq_true] at hb
    exact Array.any_eq_true'.2 ⟨e, he, by rw [hb.1, hb.2]; rfl⟩
/-- Two operations may come up, from number m on. -/
theorem till_pair {P : Program} {ops : Array Oper} {Q : Exit → Act → World → Prop} {md : Region.Mode} {S : World → Prop} {m : Nat} {i j : Nat} {oi oj : Oper} {ri rj : List Oper} {fuel : Nat} {listed : Array Bool} {a : Act} {w : World} (hdi : ops.toList.drop i = oi :: ri) (hdj : ops.toList.drop j = oj :: rj) (hm : m ≤ i) (hm2 : m ≤ j) (hr : Region.ready md ops listed = [i, j])
    (hi : ∀ K' : Act → World → Prop, Shut (∀ a w, anyTill P md ops Q S m fuel (listed.setIfInBounds i true) a w → K' a w) → if Region.wanted oi (yielded ops a.tmps) = true then Oper.wp P oi a w K' Q else K' (a.put oi.dst undef) w)
    (hj : ∀ K' : Act → World → Prop, Shut (∀ a w, anyTill P md ops Q S m fuel (listed.setIfInBounds j true) a w → K' a w) → if Region.wanted oj (yielded ops a.tmps) = true then Oper.wp P oj a w K' Q else K' (a.put oj.dst undef) w) :
    anyTill P md ops Q S m (fuel + 1) listed a w := by
  refine ⟨fun h0 => (by rw [hr] at h0; cases h0), fun x hx => ?_⟩
  rw [hr] at hx
  rcases List.mem_cons.1 hx with rfl | hx
  · refine wpOp_step (at_drop hdi) fun K' hK => hi K' ?_
    exact fun a w hW => hK a w ⟨fun h => (by omega), hW⟩
  · obtain rfl := List.mem_singleton.1 hx
    refine wpOp_step (at_drop hdj) fun K' hK => hj K' ?_
    exact fun a w hW => hK a w ⟨fun h => (by omega), hW⟩
/-- The way out of a function that holds one range over a function and whose result lies in a cell. -/
theorem leave_one {fn : Func} {n t b D : Nat} {tmps : Array Value} {u : Value} {w W wA w' : World} (hr : fn.results = #[.cell t 4]) (htm : tmps[t]?.getD undef = .pointer (some ⟨b, 0, none⟩)) (hK : W.heap[D]? = some (.deferred (some []))) (hb : Below w.heap.size w W) (hwD : w.heap.size ≤ D)
    (hc : W.cell? ⟨b, 0, none⟩ = some u) (hA : Below W.heap.size W wA) (hk : Below wA.heap.size wA w') (hbb : w.heap.size ≤ b) :
    bodyPostM Fence.wide n Try.prog fn (fun e w' => e = .returned (.bool true) ∧ Below w.heap.size w w') .ret { tmps := tmps, defers := [{ target := .collected D, args := #[] }] } (w'.setCell ⟨b, 0, none⟩ (.bool true)) := by
  have hDs : D < W.heap.size := (Array.getElem?_eq_some_iff.1 hK).1
  have hAk := bl_then hA hk
  have hK2 : (w'.setCell ⟨b, 0, none⟩ (.bool true)).heap[D]? = some (.deferred (some [])) := (KeepsOthers.setCell _ _ _).same D _ ((hAk.block D hDs).trans hK) rfl
  have hck := bl_cell hAk hc
  have hc2 : (w'.setCell ⟨b, 0, none⟩ (.bool true)).cell? ⟨b, 0, none⟩ = some (.bool true) := World.cell?_setCell_same' _ _ _ (by rw [hck]; rfl)
  have hc3 := cell_kept hc2 (grownBy_putObj' _ D (.deferred none)) (fun r e => by cases e; exact ⟨_, hK2, rfl⟩)
  refine ⟨by simp, .inl ⟨_, _, rfl, run_takeDeferred hK2, ?_⟩⟩
  refine ⟨.bool true, by simp [results, hr, go_sem, htm, hc3], rfl, ?_⟩
  have hb1 : Below w.heap.size w (w'.setCell ⟨b, 0, none⟩ (.bool true)) := bl_set (bl_then hb hAk) hbb _
  exact hb1.trans (belowK_b (w := w) (Nat.le_refl _) _ D _ _ hwD hK2 rfl rfl)
end Go.Proofs.Ytojeombljhmkaaa
