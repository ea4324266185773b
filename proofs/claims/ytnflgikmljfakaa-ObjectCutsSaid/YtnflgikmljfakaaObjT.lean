/- Object: Parse. -/
import Derived.Test.YtnflgikmljfakaaObjS
namespace Go.Proofs.Ytnflgikmljfakaa
open Go Go.RowKit Go.Shelf
set_option linter.unusedVariables false
set_option linter.unusedSimpArgs false
attribute [local go_sem] Oper.semAt_some
theorem kpP_t {B : Nat} {X Y Z : World} (h : KpP B X Y) (k : KpP B Y Z) : KpP B X Z := ⟨fun i hi => (k.1 i hi).trans (h.1 i hi), Nat.le_trans h.2.1 k.2.1, fun i cur t fr h1 h2 h3 => k.2.2 i cur t fr h1 h2 (h.2.2 i cur t fr h1 h2 h3)⟩
theorem kpP_below {B : Nat} {X Y : World} (h : Below X.heap.size X Y) (hB : B ≤ X.heap.size) : KpP B X Y := ⟨fun i hi => h.block i (by omega), h.size, fun i cur t fr _ _ h3 => (h.block i (Array.getElem?_eq_some_iff.1 h3).1).trans h3⟩
theorem kpP_put {B : Nat} {w : World} (hB : B ≤ w.heap.size) (W : World) (l : Nat) (o o' : Obj) (hl : w.heap.size ≤ l) (h : W.heap[l]? = some o) (hc : o.isCells = false) (_ : o.isWalk = false) : KpP B W (W.putObj l o') := by
  refine ⟨fun i hi => World.putObj_heap_other (by omega), by simp [World.putObj], fun i cur t fr _ _ h3 => ?_⟩
  have hne : i ≠ l := by
    rintro rfl
    rw [h] at h3
    cases h3
    cases hc
  rw [World.putObj_heap_other hne]
  exact h3
theorem own_kept {w W : World} {base e k n : Nat} {v : Value} {cs : List Value} (h : w.ownsRow base e k v n cs) (hk : ∀ (i : Nat) (cur : Array Value), base ≤ i → w.heap[i]? = some (.cells cur e (0, 0)) → W.heap[i]? = some (.cells cur e (0, 0))) : W.ownsRow base e k v n cs := by
  refine ⟨h.1, ?_⟩
  rcases h.2 with h2 | ⟨g, cap, cur, e1, hbs, hg, hr⟩
  · exact Or.inl h2
  · exact Or.inr ⟨g, cap, cur, e1, hbs, hk g cur hbs hg, hr⟩
/-- What Parse's rounds know. -/
def ParI (bs : List Int) (w : World) (B0 : Nat) (pre : List Ob) (W : World) : Prop :=
  (∃ V, Boxed W w.heap.size 22 V ∧ W.ownsRow B0 32 3 V pre.length (pre.flatMap Ob.cells)) ∧ Boxed W (w.heap.size + 1) 26 (.int .i64 0) ∧ (∀ q ∈ pre, WsIn W q.v q.ws) ∧ Below w.heap.size w W ∧ B0 ≤ W.heap.size ∧ pre.length ≤ 40 ∧ ∃ more, pre.map Ob.key ++ more = (rd bs).1
/-- .. where they give up. -/
def ParP (bs : List Int) (w : World) (B0 : Nat) (ch : List PanicEntry) (pre : List Ob) (W : World) : Prop :=
  ch = stopP ∧ (∃ V, Boxed W w.heap.size 22 V) ∧ Boxed W (w.heap.size + 1) 26 (.int .i64 0) ∧ Below w.heap.size w W ∧ B0 ≤ W.heap.size ∧ pre.length = 41 ∧ ∃ more, pre.map Ob.key ++ more = (rd bs).1
/-- What leaves both as they are. -/
def ParM (w : World) (A C : World) : Prop := Below w.heap.size A C ∧ ∀ (i : Nat) (cur : Array Value) (t : TypeId) (fr : Nat × Nat), t ≠ 3 → A.heap[i]? = some (.cells cur t fr) → C.heap[i]? = some (.cells cur t fr)
theorem ParI.move {bs : List Int} {w A C : World} {B0 : Nat} {pre : List Ob} (h : ParI bs w B0 pre A) (hm : ParM w A C) : ParI bs w B0 pre C := by
  obtain ⟨⟨V, h1, h2⟩, h3, h4, h5, h6, h7, h8⟩ := h
  exact ⟨⟨V, hm.2 _ _ _ _ (by decide) h1, own_kept h2 fun i cur _ hi => hm.2 i cur _ _ (by decide) hi⟩, hm.2 _ _ _ _ (by decide) h3, fun q hq => (h4 q hq).kept fun i cur hi => hm.2 i cur _ _ (by decide) hi, h5.trans hm.1, Nat.le_trans h6 hm.1.size, h7, h8⟩
theorem ParP.move {bs : List Int} {w A C : World} {B0 : Nat} {ch : List PanicEntry} {pre : List Ob} (h : ParP bs w B0 ch pre A) (hm : ParM w A C) : ParP bs w B0 ch pre C := by
  obtain ⟨h0, ⟨V, h1⟩, h3, h5, h6, h7, h8⟩ := h
  exact ⟨h0, ⟨V, hm.2 _ _ _ _ (by decide) h1⟩, hm.2 _ _ _ _ (by decide) h3, h5.trans hm.1, Nat.le_trans h6 hm.1.size, h7, h8⟩
theorem parM_own {w A C : World} {B : Nat} {row : Option Nat} (hB : w.heap.size ≤ B) (hA : w.heap.size ≤ A.heap.size) (hg : A.grownBy C row) (hr : ∀ r, row = some r → B ≤ r ∧ ∃ o : Obj, A.heap[r]? = some o ∧ o.isCells = false) : ParM w A C := by
  refine ⟨⟨hg.os, hg.tape, hg.output, hg.size, fun i hi => hg.block i (by omega) fun e => by have := (hr i e.symm).1; omega⟩, fun i cur t fr _ h => (hg.block i (Array.getElem?_eq_some_iff.1 h).1 fun e => ?_).trans h⟩
  obtain ⟨-, o, ho, hc⟩ := hr i e.symm
  rw [h] at ho
  cases ho
  cases hc
theorem parM_st {w A C : World} {B : Nat} (hB : w.heap.size ≤ B) (h : StP B A C) : ParM w A C := ⟨h.1.mono hB, fun i cur t fr ht hi => h.2 i _ hi fun cur' fr' e => by cases e; exact ht rfl⟩
/-- What Parse answers. -/
def ParseR (bs : List Int) (w : World) (e : Ending) (w' : World) : Prop :=
  Below w.heap.size w w' ∧ ((∃ (qs : List Ob) (V : Value), parseO bs = some (qs.map Ob.key) ∧ e = .returned (.tuple #[V, .int .i64 0]) ∧ w'.ownsRow w.heap.size 32 3 V qs.length (qs.flatMap Ob.cells) ∧ ∀ q ∈ qs, WsIn w' q.v q.ws) ∨
    (parseO bs = none ∧ e = .returned (.tuple #[.slice none 0 0, .int .i64 170])))
abbrev parD (w : World) (D : Nat) : List Deferred := [{ target := .collected D, args := #[] }, { target := .fn (.func 21) #[.pointer (some ⟨w.heap.size, 0, none⟩), .pointer (some ⟨w.heap.size + 1, 0, none⟩)], args := #[] }]
theorem boxed_put {W : World} {b D : Nat} {t : TypeId} {v : Value} {ds : Option (List Deferred)} {o' : Obj} (h : Boxed W b t v) (hD : W.heap[D]? = some (.deferred ds)) : Boxed (W.putObj D o') b t v := by
  have hne : b ≠ D := by
    rintro rfl
    rw [h] at hD
    cases hD
  exact (World.putObj_heap_other hne).trans h
theorem below_put {w W : World} {D : Nat} {o' : Obj} (h : Below w.heap.size w W) (hD : w.heap.size ≤ D) : Below w.heap.size w (W.putObj D o') := ⟨h.os, h.tape, h.output, by simpa [World.putObj] using h.size, fun i hi => (World.putObj_heap_other (by omega)).trans (h.block i hi)⟩
set_option maxRecDepth 100000 in
theorem leave_yes (bs : List Int) (w W : World) (D B0 : Nat) (qs : List Ob) (V : Value) (tmps : Array Value) (ht2 : tmps[2]? = some (.pointer (some ⟨w.heap.size, 0, none⟩))) (ht3 : tmps[3]? = some (.pointer (some ⟨w.heap.size + 1, 0, none⟩))) (hD : W.heap[D]? = some (.deferred (some []))) (hwD : w.heap.size ≤ D)
    (hp : parseO bs = some (qs.map Ob.key)) (hB0 : w.heap.size ≤ B0) (h1 : Boxed W w.heap.size 22 V) (h2 : W.ownsRow B0 32 3 V qs.length (qs.flatMap Ob.cells)) (h3 : Boxed W (w.heap.size + 1) 26 (.int .i64 0)) (h4 : ∀ q ∈ qs, WsIn W q.v q.ws) (h5 : Below w.heap.size w W) :
    LeavesInM Fence.wide 12 Try.prog Try.f11 tmps (ParseR bs w) (parD w D) .returning W := by
  refine ⟨by simp, .inl ⟨_, _, rfl, run_takeDeferred hD, ?_⟩⟩
  have hk : ∀ (i : Nat) (cur : Array Value) (t : TypeId) (fr : Nat × Nat), W.heap[i]? = some (.cells cur t fr) → (W.putObj D (.deferred none)).heap[i]? = some (.cells cur t fr) := fun i cur t fr h => by
    have hne : i ≠ D := by
      rintro rfl
      rw [h] at hD
      cases hD
    exact (World.putObj_heap_other hne).trans h
  refine ⟨by simp, .inr ⟨fun h => (by simp [Fence.wide] at h), _, _, 21, #[.pointer (some ⟨w.heap.size, 0, none⟩), .pointer (some ⟨w.heap.size + 1, 0, none⟩)], rfl, (by simp [go_sem, invoke]), fun _ _ => trivial, ?_⟩⟩
  refine (catch_idle _ _ _ _).mono ?_
  rintro e u' w'' ⟨rfl, rfl, rfl⟩
  have c0 := (show Boxed _ w.heap.size _ _ from hk _ _ _ _ h1).cell
  have c1 := (show Boxed _ (w.heap.size + 1) _ _ from hk _ _ _ _ h3).cell
  have ht2' : tmps[2]?.getD undef = .pointer (some ⟨w.heap.size, 0, none⟩) := by rw [ht2]; rfl
  have ht3' : tmps[3]?.getD undef = .pointer (some ⟨w.heap.size + 1, 0, none⟩) := by rw [ht3]; rfl
  refine ⟨.tuple #[V, .int .i64 0], by simp [results, Try.results11, go_sem, ht2', ht3', c0, c1], below_put h5 hwD, .inl ⟨qs, V, hp, rfl, ?_, fun q hq => (h4 q hq).kept fun i cur hi => hk _ _ _ _ hi⟩⟩
  have h9 := own_kept h2 (W := W.putObj D (.deferred none)) fun i cur _ hi => hk _ _ _ _ hi
  refine ⟨h9.1, ?_⟩
  rcases h9.2 with h8 | ⟨g, cap, cur, e1, hbs, hr⟩
  · exact Or.inl h8
  · exact Or.inr ⟨g, cap, cur, e1, Nat.le_trans hB0 hbs, hr⟩
set_option maxRecDepth 100000 in
theorem leave_no (bs : List Int) (w W : World) (D : Nat) (V : Value) (tmps : Array Value) (ht2 : tmps[2]? = some (.pointer (some ⟨w.heap.size, 0, none⟩))) (ht3 : tmps[3]? = some (.pointer (some ⟨w.heap.size + 1, 0, none⟩))) (hD : W.heap[D]? = some (.deferred (some []))) (hwD : w.heap.size ≤ D)
    (hp : parseO bs = none) (h1 : Boxed W w.heap.size 22 V) (h3 : Boxed W (w.heap.size + 1) 26 (.int .i64 0)) (h5 : Below w.heap.size w W) :
    LeavesInM Fence.wide 12 Try.prog Try.f11 tmps (ParseR bs w) (parD w D) (.panicking stopP) W := by
  refine ⟨by simp, .inl ⟨_, _, rfl, run_takeDeferred hD, ?_⟩⟩
  refine ⟨by simp, .inr ⟨fun h => (by simp [Fence.wide] at h), _, _, 21, #[.pointer (some ⟨w.heap.size, 0, none⟩), .pointer (some ⟨w.heap.size + 1, 0, none⟩)], rfl, (by simp [go_sem, invoke]), fun _ _ => trivial, ?_⟩⟩
  refine (catch_stop _ _ _ [] _ V 0 (boxed_put h1 hD) (boxed_put h3 hD) (by omega) w.heap.size (Nat.le_refl _) (by omega)).mono ?_
  rintro e u' w'' ⟨rfl, rfl, k1, k2, k3⟩
  obtain ⟨c0, -⟩ := cells1 k1
  obtain ⟨c1, -⟩ := cells1 k2
  have ht2' : tmps[2]?.getD undef = .pointer (some ⟨w.heap.size, 0, none⟩) := by rw [ht2]; rfl
  have ht3' : tmps[3]?.getD undef = .pointer (some ⟨w.heap.size + 1, 0, none⟩) := by rw [ht3]; rfl
  refine ⟨.tuple #[.slice none 0 0, .int .i64 170], by simp [results, Try.results11, go_sem, ht2', ht3', c0, c1], (below_put h5 hwD).trans k3, .inr ⟨hp, rfl⟩⟩
end Go.Proofs.Ytnflgikmljfakaa
