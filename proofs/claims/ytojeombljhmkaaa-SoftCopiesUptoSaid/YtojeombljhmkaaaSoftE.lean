/- Soft: what a change of the table does to memory. -/
import Derived.Test.YtojeombljhmkaaaSoftD
namespace Go.Proofs.Ytojeombljhmkaaa
open Go.RowKit Go.Shelf
set_option linter.unusedVariables false
set_option linter.unusedSimpArgs false
attribute [local go_sem] Oper.semAt_some
/-- Only blocks of a set moved. -/
structure MovS (S : Nat → Prop) (w W : World) : Prop where
  os : W.os = w.os
  tape : W.tape = w.tape
  output : W.output = w.output
  size : w.heap.size ≤ W.heap.size
  block : ∀ i, i < w.heap.size → ¬ S i → W.heap[i]? = w.heap[i]?
theorem MovS.refl (S : Nat → Prop) (w : World) : MovS S w w := ⟨rfl, rfl, rfl, Nat.le_refl _, fun _ _ _ => rfl⟩
theorem MovS.trans {S S' : Nat → Prop} {a b c : World} (h : MovS S a b) (k : MovS S' b c) (hs : ∀ i, i < a.heap.size → S' i → S i) : MovS S a c :=
  ⟨k.os.trans h.os, k.tape.trans h.tape, k.output.trans h.output, Nat.le_trans h.size k.size, fun i hi hn => (k.block i (Nat.lt_of_lt_of_le hi h.size) fun hs' => hn (hs i hi hs')).trans (h.block i hi hn)⟩
theorem MovS.then {S : Nat → Prop} {a b c : World} (h : MovS S a b) (k : Below b.heap.size b c) : MovS S a c :=
  ⟨k.os.trans h.os, k.tape.trans h.tape, k.output.trans h.output, Nat.le_trans h.size k.size, fun i hi hn => (k.block i (Nat.lt_of_lt_of_le hi h.size)).trans (h.block i hi hn)⟩
theorem MovS.ofBelow {S : Nat → Prop} {a b : World} (h : Below a.heap.size a b) : MovS S a b := ⟨h.os, h.tape, h.output, h.size, fun i hi _ => h.block i hi⟩
theorem MovS.below {S : Nat → Prop} {B : Nat} {a b : World} (h : MovS S a b) (hS : ∀ i, S i → B ≤ i) (hB : B ≤ a.heap.size) : Below B a b :=
  ⟨h.os, h.tape, h.output, h.size, fun i hi => h.block i (by omega) fun hs => by have := hS i hs; omega⟩
theorem MovS.grown {S : Nat → Prop} {a b c : World} {r : Nat} (h : MovS S a b) (k : b.grownBy c (some r)) (hs : a.heap.size ≤ r ∨ S r) : MovS S a c :=
  ⟨k.os.trans h.os, k.tape.trans h.tape, k.output.trans h.output, Nat.le_trans h.size k.size, fun i hi hn => (k.block i (Nat.lt_of_lt_of_le hi h.size) (fun e => by have := Option.some.inj e; subst this; rcases hs with hs | hs; exact absurd hi (by omega); exact hn hs)).trans (h.block i hi hn)⟩
theorem heap_set_other {w : World} {q : Addr} {v : Value} {i : Nat} (h : i ≠ q.block) : (w.setCell q v).heap[i]? = w.heap[i]? := by
  simp only [World.setCell, Array.getElem?_modify]
  rw [if_neg (Ne.symm h)]
theorem MovS.set {S : Nat → Prop} {a b : World} {q : Addr} {v : Value} (h : MovS S a b) (hs : a.heap.size ≤ q.block ∨ S q.block) : MovS S a (b.setCell q v) :=
  ⟨h.os, h.tape, h.output, by simpa [World.setCell] using h.size, fun i hi hn => (heap_set_other (by rintro rfl; rcases hs with hs | hs; exact absurd hi (by omega); exact hn hs)).trans (h.block i hi hn)⟩
theorem heap_set {w : World} {b o : Nat} {cur : Array Value} {t : TypeId} {fr : Nat × Nat} {v : Value} (h : w.heap[b]? = some (.cells cur t fr)) :
    (w.setCell ⟨b, o, none⟩ v).heap[b]? = some (.cells (cur.setIfInBounds o v) t fr) := by
  simp [World.setCell, Array.getElem?_modify, h]
/-- The blocks of a table. -/
def TSet (p r : Nat) (es : List (Nat × Th)) (i : Nat) : Prop := i = p ∨ i = r ∨ i ∈ es.map (·.1)
theorem TAt.ne_pr {w : World} {p r : Nat} {now : Int} {es : List (Nat × Th)} (h : TAt w p r now es) : p ≠ r := by
  rintro rfl
  obtain ⟨es', c, hb, _⟩ := h.map
  rw [h.own] at hb
  cases hb
theorem TAt.ne_p {w : World} {p r : Nat} {now : Int} {es : List (Nat × Th)} (h : TAt w p r now es) {e : Nat × Th} (he : e ∈ es) : e.1 ≠ p := by
  intro hp
  have h1 := h.each e he
  rw [hp, h.own] at h1
  injection h1 with h1
  injection h1 with h1 h2 h3
  exact absurd h2 (by decide)
theorem TAt.ne_r {w : World} {p r : Nat} {now : Int} {es : List (Nat × Th)} (h : TAt w p r now es) {e : Nat × Th} (he : e ∈ es) : e.1 ≠ r := by
  intro hp
  obtain ⟨es', c, hb, _⟩ := h.map
  have h1 := h.each e he
  rw [hp, hb] at h1
  cases h1
theorem TAt.lt {w : World} {p r : Nat} {now : Int} {es : List (Nat × Th)} (h : TAt w p r now es) : ∀ i, TSet p r es i → i < w.heap.size := by
  rintro i (rfl | rfl | hi)
  · exact (Array.getElem?_eq_some_iff.1 h.own).1
  · exact h.map.lt
  · obtain ⟨e, he, rfl⟩ := List.mem_map.1 hi
    exact (Array.getElem?_eq_some_iff.1 (h.each e he)).1
/-- A table stays while blocks move that are not its own. -/
theorem TAt.mov {S : Nat → Prop} {w W : World} {p r : Nat} {now : Int} {es : List (Nat × Th)} (h : TAt w p r now es) (hm : MovS S w W) (hd : ∀ i, TSet p r es i → ¬ S i) : TAt W p r now es :=
  ⟨(hm.block p (h.lt p (.inl rfl)) (hd p (.inl rfl))).trans h.own, h.map.step (hm.block r (h.lt r (.inr (.inl rfl))) (hd r (.inr (.inl rfl)))),
   fun e he => (hm.block e.1 (h.lt _ (.inr (.inr (List.mem_map.2 ⟨e, he, rfl⟩)))) (hd _ (.inr (.inr (List.mem_map.2 ⟨e, he, rfl⟩))))).trans (h.each e he), h.nodup⟩
/-- A thing of a block in place of what was there. -/
def updT (es : List (Nat × Th)) (b : Nat) (x : Th) : List (Nat × Th) := es.map fun e => if e.1 = b then (b, x) else e
theorem updT_blocks (es : List (Nat × Th)) (b : Nat) (x : Th) : (updT es b x).map (·.1) = es.map (·.1) := by
  unfold updT
  rw [List.map_map]
  refine List.map_congr_left fun e _ => ?_
  show (if e.1 = b then (b, x) else e).1 = e.1
  split
  · next h => exact h.symm
  · rfl
theorem nodup_fst {es : List (Nat × Th)} (hn : (es.map (·.1)).Nodup) {e f : Nat × Th} (he : e ∈ es) (hf : f ∈ es) (h : e.1 = f.1) : e = f := by
  induction es with
  | nil => cases he
  | cons a l ih =>
    simp only [List.map_cons, List.nodup_cons] at hn
    rcases List.mem_cons.1 he with he1 | he1 <;> rcases List.mem_cons.1 hf with hf1 | hf1
    · rw [he1, hf1]
    · exact (hn.1 (List.mem_map.2 ⟨f, hf1, by rw [← he1, h]⟩)).elim
    · exact (hn.1 (List.mem_map.2 ⟨e, he1, by rw [← hf1, h]⟩)).elim
    · exact ih hn.2 he1 hf1
theorem TAt.upd {w W : World} {p r : Nat} {now : Int} {es : List (Nat × Th)} (h : TAt w p r now es) {b : Nat} {x x' : Th} (hb : (b, x) ∈ es) (hn : x'.name = x.name)
    (hW : W.heap[b]? = some (.cells (Th.cells x').toArray 35 (0, 0))) (ho : ∀ i, i < w.heap.size → i ≠ b → W.heap[i]? = w.heap[i]?) : TAt W p r now (updT es b x') := by
  have hbp := h.ne_p hb
  have hbr := h.ne_r hb
  refine ⟨(ho p (h.lt p (.inl rfl)) (Ne.symm hbp)).trans h.own, ?_, fun e he => ?_, by rw [updT_blocks]; exact h.nodup⟩
  · have hm := h.map.step (ho r (h.lt r (.inr (.inl rfl))) (Ne.symm hbr))
    have : (updT es b x').map (fun e => (e.2.name, Value.pointer (some ⟨e.1, 0, none⟩))) = es.map (fun e => (e.2.name, Value.pointer (some ⟨e.1, 0, none⟩))) := by
      unfold updT
      rw [List.map_map]
      refine List.map_congr_left fun e he => ?_
      show ((if e.1 = b then (b, x') else e).2.name, Value.pointer (some ⟨(if e.1 = b then (b, x') else e).1, 0, none⟩)) = _
      split
      · next h1 =>
        have := nodup_fst h.nodup he hb h1
        subst this
        rw [hn]
      · rfl
    rw [this]
    exact hm
  · obtain ⟨e0, he0, rfl⟩ := List.mem_map.1 he
    split
    · exact hW
    · next h1 => exact (ho _ (h.lt _ (.inr (.inr (List.mem_map.2 ⟨e0, he0, rfl⟩)))) h1).trans (h.each e0 he0)
/-- One more thing. -/
theorem TAt.more {w W : World} {p r : Nat} {now : Int} {es : List (Nat × Th)} (h : TAt w p r now es) {b : Nat} {x : Th} (hb : b = w.heap.size ∨ w.heap.size ≤ b)
    (hm : MapOf encS W r (mput (es.map fun e => (e.2.name, Value.pointer (some ⟨e.1, 0, none⟩))) x.name (.pointer (some ⟨b, 0, none⟩)))) (hg : getT es x.name = none)
    (hW : W.heap[b]? = some (.cells (Th.cells x).toArray 35 (0, 0))) (ho : ∀ i, i < w.heap.size → i ≠ r → W.heap[i]? = w.heap[i]?) : TAt W p r now (es ++ [(b, x)]) := by
  have hb' : w.heap.size ≤ b := by omega
  have hfresh : ∀ e ∈ es, e.1 ≠ b := fun e he => by have := h.lt _ (.inr (.inr (List.mem_map.2 ⟨e, he, rfl⟩))); omega
  refine ⟨(ho p (h.lt p (.inl rfl)) h.ne_pr).trans h.own, ?_, fun e he => ?_, ?_⟩
  · have : (es ++ [(b, x)]).map (fun e => (e.2.name, Value.pointer (some ⟨e.1, 0, none⟩))) = mput (es.map fun e => (e.2.name, Value.pointer (some ⟨e.1, 0, none⟩))) x.name (.pointer (some ⟨b, 0, none⟩)) := by
      unfold mput
      rw [getT_get, hg]
      simp
    rw [this]
    exact hm
  · rcases List.mem_append.1 he with he | he
    · exact (ho _ (h.lt _ (.inr (.inr (List.mem_map.2 ⟨e, he, rfl⟩)))) (h.ne_r he)).trans (h.each e he)
    · rw [List.mem_singleton.1 he]
      exact hW
  · rw [List.map_append]
    refine List.nodup_append.2 ⟨h.nodup, by simp, fun a ha c hc => ?_⟩
    obtain ⟨e, he, rfl⟩ := List.mem_map.1 ha
    simp at hc
    subst hc
    exact hfresh e he
theorem TAt.gone {w W : World} {p r : Nat} {now : Int} {es : List (Nat × Th)} (h : TAt w p r now es) {s : ByteArray}
    (hm : MapOf encS W r (mdel (es.map fun e => (e.2.name, Value.pointer (some ⟨e.1, 0, none⟩))) s)) (ho : ∀ i, i < w.heap.size → i ≠ r → W.heap[i]? = w.heap[i]?) : TAt W p r now (es.filter fun e => e.2.name ≠ s) := by
  refine ⟨(ho p (h.lt p (.inl rfl)) h.ne_pr).trans h.own, ?_, fun e he => ?_, (List.Sublist.map _ List.filter_sublist).nodup h.nodup⟩
  · have : (es.filter fun e => e.2.name ≠ s).map (fun e => (e.2.name, Value.pointer (some ⟨e.1, 0, none⟩))) = mdel (es.map fun e => (e.2.name, Value.pointer (some ⟨e.1, 0, none⟩))) s := by
      unfold mdel
      rw [List.filter_map]
      rfl
    rw [this]
    exact hm
  · have he' := (List.mem_filter.1 he).1
    exact (ho _ (h.lt _ (.inr (.inr (List.mem_map.2 ⟨e, he', rfl⟩)))) (h.ne_r he')).trans (h.each e he')
theorem TAt.at {w W : World} {p r : Nat} {now n : Int} {es : List (Nat × Th)} (h : TAt w p r now es)
    (hW : W.heap[p]? = some (.cells #[.int .i64 n, .map (some r)] 65 (0, 0))) (ho : ∀ i, i < w.heap.size → i ≠ p → W.heap[i]? = w.heap[i]?) : TAt W p r n es :=
  ⟨hW, h.map.step (ho r (h.lt r (.inr (.inl rfl))) (Ne.symm h.ne_pr)), fun e he => (ho _ (h.lt _ (.inr (.inr (List.mem_map.2 ⟨e, he, rfl⟩)))) (h.ne_p he)).trans (h.each e he), h.nodup⟩
/-- Names are told apart. -/
theorem TAt.names {w : World} {p r : Nat} {now : Int} {es : List (Nat × Th)} (h : TAt w p r now es) : (es.map (·.2.name)).Nodup := by
  obtain ⟨_, _, _, _, _, _, hn⟩ := h.map
  rw [List.map_map] at hn
  exact hn
theorem getT_mem {es : List (Nat × Th)} {s : ByteArray} {e : Nat × Th} (h : getT es s = some e) : e ∈ es ∧ e.2.name = s := by
  unfold getT at h
  exact ⟨List.mem_of_find?_eq_some h, by have := List.find?_some h; simpa using this⟩
end Go.Proofs.Ytojeombljhmkaaa
