/- Soft: what a table does, in the order of names. -/
import Derived.Test.YtojeombljhmkaaaSoftR
namespace Go.Proofs.Ytojeombljhmkaaa
open Go.RowKit Go.Shelf Go.Sort
set_option linter.unusedVariables false
set_option linter.unusedSimpArgs false
attribute [local go_sem] Oper.semAt_some
/-- A thing in its place by names. -/
def insL (x : Th) : List Th → List Th
  | [] => [x]
  | y :: l => if ltS y.name x.name = true then y :: insL x l else x :: y :: l
def withL (L : List Th) (x : Th) : List Th := insL x (L.filter fun y => decide (y.name ≠ x.name))
theorem insL_perm (x : Th) : ∀ l : List Th, (insL x l).Perm (x :: l)
  | [] => List.Perm.refl _
  | y :: l => by
    unfold insL
    split
    · exact ((insL_perm x l).cons y).trans (List.Perm.swap x y l)
    · exact List.Perm.refl _
theorem insL_sorted (x : Th) : ∀ l : List Th, ByName l → (∀ y ∈ l, y.name ≠ x.name) → ByName (insL x l)
  | [], _, _ => by simp [insL, ByName]
  | y :: l, h, hx => by
    unfold insL
    have h' := List.pairwise_cons.1 h
    split
    · next hl =>
      refine List.pairwise_cons.2 ⟨fun z hz => ?_, insL_sorted x l h'.2 fun z hz => hx z (List.mem_cons_of_mem _ hz)⟩
      rcases List.mem_cons.1 ((insL_perm x l).mem_iff.1 hz) with rfl | hz
      · exact hl
      · exact h'.1 z hz
    · next hl =>
      have hxy : ltS x.name y.name = true := by
        cases hc : ltS x.name y.name with
        | true => rfl
        | false => exact absurd (ltS_total (by simpa using hl) hc) (hx y List.mem_cons_self)
      refine List.pairwise_cons.2 ⟨fun z hz => ?_, h⟩
      rcases List.mem_cons.1 hz with rfl | hz
      · exact hxy
      · exact ltS_trans hxy (h'.1 z hz)
theorem isL_with {L : List Th} {es es' : List (Nat × Th)} {x : Th} (h : IsL L es) (hp : (es'.map (·.2)).Perm (x :: ((es.map (·.2)).filter fun y => decide (y.name ≠ x.name)))) : IsL (withL L x) es' := by
  refine ⟨?_, insL_sorted x _ (h.2.filter _) fun y hy => by have := (List.mem_filter.1 hy).2; simpa using this⟩
  exact (insL_perm x _).trans (((h.1.filter _).cons x).trans hp.symm)
theorem isL_names {L : List Th} {es : List (Nat × Th)} (h : IsL L es) : (es.map (·.2.name)).Nodup := by
  have h1 := name_ne h.2 (List.Perm.refl _)
  have h2 : (L.map (·.name)).Nodup := List.pairwise_map.2 h1
  have h3 := (h.1.map (·.name)).nodup_iff.1 h2
  rw [List.map_map] at h3
  exact h3
/-- Replacing a thing of a name. -/
theorem perm_upd {es : List (Nat × Th)} (hn : (es.map (·.2.name)).Nodup) (hbn : (es.map (·.1)).Nodup) {b : Nat} {x x' : Th} (hb : (b, x) ∈ es) (he : x'.name = x.name) :
    ((updT es b x').map (·.2)).Perm (x' :: ((es.map (·.2)).filter fun y => decide (y.name ≠ x'.name))) := by
  induction es with
  | nil => cases hb
  | cons e l ih =>
    simp only [List.map_cons, List.nodup_cons] at hn hbn
    unfold updT
    simp only [List.map_cons]
    by_cases h1 : e.1 = b
    · have h2 : (b, x) = e := by
        rcases List.mem_cons.1 hb with h | h
        · exact h
        · exact absurd (List.mem_map.2 ⟨_, h, rfl⟩) (by rw [← h1]; exact hbn.1)
      subst h2
      have h3 : (l.map fun e => if e.1 = b then (b, x') else e) = l := by
        refine (List.map_congr_left fun f hf => ?_).trans (List.map_id l)
        rw [if_neg (fun h => hbn.1 (List.mem_map.2 ⟨f, hf, h⟩))]
        rfl
      have h4 : (l.map (·.2)).filter (fun y => decide (y.name ≠ x'.name)) = l.map (·.2) := by
        refine List.filter_eq_self.2 fun y hy => ?_
        obtain ⟨f, hf, rfl⟩ := List.mem_map.1 hy
        have : f.2.name ≠ x'.name := fun h => hn.1 (List.mem_map.2 ⟨f, hf, by rw [h, he]⟩)
        simpa using this
      rw [h3, List.filter_cons_of_neg (by simp [he]), h4]
      simp
    · have h2 : (b, x) ∈ l := by
        rcases List.mem_cons.1 hb with h | h
        · exact absurd (by rw [← h]) h1
        · exact h
      have h3 : e.2.name ≠ x'.name := fun h => hn.1 (List.mem_map.2 ⟨_, h2, by rw [h, he]⟩)
      have := ih hn.2 hbn.2 h2
      unfold updT at this
      rw [if_neg h1, List.filter_cons_of_pos (by simpa using h3)]
      exact (this.cons e.2).trans (List.Perm.swap _ _ _)
theorem perm_new {es : List (Nat × Th)} {b : Nat} {x : Th} (hg : getT es x.name = none) : ((es ++ [(b, x)]).map (·.2)).Perm (x :: ((es.map (·.2)).filter fun y => decide (y.name ≠ x.name))) := by
  have h1 : (es.map (·.2)).filter (fun y => decide (y.name ≠ x.name)) = es.map (·.2) := by
    refine List.filter_eq_self.2 fun y hy => ?_
    obtain ⟨f, hf, rfl⟩ := List.mem_map.1 hy
    have := List.find?_eq_none.1 hg f hf
    simpa using this
  rw [h1, List.map_append]
  exact List.perm_append_comm
/-- The thing of a name. -/
def findL (L : List Th) (s : ByteArray) : Option Th := L.find? fun x => decide (x.name = s)
theorem findL_get {L : List Th} {es : List (Nat × Th)} (h : IsL L es) (s : ByteArray) : findL L s = (getT es s).map (·.2) := by
  have hn := isL_names h
  cases hg : getT es s with
  | none =>
    refine List.find?_eq_none.2 fun x hx => ?_
    obtain ⟨b, hb⟩ := (isL_mem h).1 hx
    simpa using List.find?_eq_none.1 hg _ hb
  | some e =>
    obtain ⟨hm, hnm⟩ := getT_mem hg
    show findL L s = some e.2
    unfold findL
    cases hf : L.find? fun x => decide (x.name = s) with
    | none =>
      have := List.find?_eq_none.1 hf _ ((isL_mem h).2 ⟨e.1, hm⟩)
      exact absurd hnm (by simpa using this)
    | some y =>
      have hy := List.mem_of_find?_eq_some hf
      have hyn : y.name = s := by have := List.find?_some hf; simpa using this
      obtain ⟨b, hb⟩ := (isL_mem h).1 hy
      have := name_inj hn hb hm (by rw [hyn, hnm])
      rw [← this]
/-- The document's Keep, Hear, Drop. -/
def keepL (now : Int) (L : List Th) (s : ByteArray) (n : Int) : List Th × Bool × Int :=
  if namedB s = true ∧ lifeI n ≠ 0 then
    match findL L s with
    | none => if 256 ≤ L.length then (L, false, 3) else (withL L ⟨s, n, now + n, now + lifeI n⟩, true, 0)
    | some x => (withL L ⟨x.name, n, if x.period = n then x.next else now + n, now + lifeI n⟩, false, 0)
  else (L, false, 2)
def hearL (now : Int) (L : List Th) (s : ByteArray) : List Th × Int :=
  if namedB s = true then
    match findL L s with
    | none => (L, 5)
    | some x => (withL L ⟨x.name, x.period, x.next, now + lifeI x.period⟩, 0)
  else (L, 2)
def dropL (L : List Th) (s : ByteArray) : List Th × Int :=
  if namedB s = true then
    match findL L s with
    | none => (L, 5)
    | some x => (L.filter (fun y => decide (y.name ≠ s)), 0)
  else (L, 2)
/-- A table, of things that may be. -/
structure Tb (w : World) (p r : Nat) (now : Int) (L : List Th) (es : List (Nat × Th)) : Prop where
  tab : TAt w p r now es
  isL : IsL L es
  good : ∀ x ∈ L, 1 ≤ x.period ∧ x.period ≤ 1000000
  few : L.length ≤ 256
  lo : 0 ≤ now
  hi : now ≤ 2147483647
theorem Tb.below {w W : World} {p r : Nat} {now : Int} {L : List Th} {es : List (Nat × Th)} (h : Tb w p r now L es) (hb : Below w.heap.size w W) : Tb W p r now L es :=
  ⟨h.tab.below hb, h.isL, h.good, h.few, h.lo, h.hi⟩
theorem Tb.mov {S : Nat → Prop} {w W : World} {p r : Nat} {now : Int} {L : List Th} {es : List (Nat × Th)} (h : Tb w p r now L es) (hm : MovS S w W) (hd : ∀ i, TSet p r es i → ¬ S i) : Tb W p r now L es :=
  ⟨h.tab.mov hm hd, h.isL, h.good, h.few, h.lo, h.hi⟩
theorem Tb.len {w : World} {p r : Nat} {now : Int} {L : List Th} {es : List (Nat × Th)} (h : Tb w p r now L es) : es.length = L.length := by have := h.isL.1.length_eq; simpa using this.symm
theorem withL_mem {L : List Th} {x y : Th} : y ∈ withL L x ↔ y = x ∨ (y ∈ L ∧ y.name ≠ x.name) := by
  unfold withL
  rw [(insL_perm x _).mem_iff, List.mem_cons, List.mem_filter]
  simp
/-- New blocks lie behind the old ones. -/
def Grew (w : World) (es es' : List (Nat × Th)) : Prop := ∀ e ∈ es', e.1 ∈ es.map (·.1) ∨ w.heap.size ≤ e.1
theorem Grew.of_blocks {w : World} {es es' : List (Nat × Th)} (h : es'.map (·.1) = es.map (·.1)) : Grew w es es' := fun e he => .inl (by rw [← h]; exact List.mem_map.2 ⟨e, he, rfl⟩)
theorem Grew.refl (w : World) (es : List (Nat × Th)) : Grew w es es := Grew.of_blocks rfl
/-- What an operation has done to a table. -/
def Did (p r : Nat) (es : List (Nat × Th)) (w : World) (now' : Int) (L' : List Th) (w' : World) : Prop := ∃ es', Tb w' p r now' L' es' ∧ Grew w es es' ∧ MovS (TSet p r es) w w'
theorem withL_len {L : List Th} (x : Th) (hl : L.length < 256 ∨ ∃ y ∈ L, y.name = x.name) (h256 : L.length ≤ 256) : (withL L x).length ≤ 256 := by
  unfold withL
  rw [(insL_perm x _).length_eq, List.length_cons]
  rcases hl with hl | ⟨y, hy, hyn⟩
  · have := List.length_filter_le (fun y : Th => decide (y.name ≠ x.name)) L
    omega
  · have : (L.filter fun y => decide (y.name ≠ x.name)).length < L.length := List.length_filter_lt_length_iff_exists.2 ⟨y, hy, by simpa using hyn⟩
    omega
theorem keep_all (p r : Nat) (now : Int) (L : List Th) (es : List (Nat × Th)) (s : ByteArray) (n : Int) (w : World) (h : Tb w p r now L es) :
    Calls Try.prog 11 #[.pointer (some ⟨p, 0, none⟩), .string s, .int .i64 n] w fun e w' => e = .returned (.tuple #[.bool (keepL now L s n).2.1, .int .i64 (keepL now L s n).2.2]) ∧ Did p r es w now (keepL now L s n).1 w' := by
  unfold keepL
  have hlen := h.len
  by_cases hc : namedB s = true ∧ lifeI n ≠ 0
  · rw [if_pos hc, findL_get h.isL]
    have hl : 1 ≤ n ∧ n ≤ 1000000 := by have := mt life_zero.2 hc.2; omega
    cases hg : getT es s with
    | none =>
      show Calls _ _ _ _ fun e w' => e = .returned (.tuple #[.bool (if 256 ≤ L.length then _ else _ : List Th × Bool × Int).2.1, _]) ∧ _
      by_cases h256 : 256 ≤ L.length
      · rw [if_pos h256]
        exact (keep_long p r now es s n w h.tab hc.1 hl hg (by omega)).mono fun e w' ⟨he, hb⟩ => ⟨he, es, h.below hb, Grew.refl _ _, MovS.ofBelow hb⟩
      · rw [if_neg h256]
        refine (keep_new p r now es s n w h.tab ⟨h.lo, h.hi⟩ hc.1 hl hg (by omega)).mono fun e w' ⟨he, b, hb, ht, hm⟩ => ⟨he, _, ⟨ht, isL_with h.isL (perm_new hg), fun x hx => ?_, withL_len _ (.inl (by omega)) h.few, h.lo, h.hi⟩, fun e he => ?_, hm⟩
        · rcases withL_mem.1 hx with rfl | ⟨hx, -⟩
          · exact hl
          · exact h.good x hx
        · rcases List.mem_append.1 he with he | he
          · exact .inl (List.mem_map.2 ⟨e, he, rfl⟩)
          · rw [List.mem_singleton.1 he]; exact .inr hb
    | some e =>
      obtain ⟨b, x⟩ := e
      obtain ⟨hm, hnm⟩ := getT_mem hg
      refine (keep_old p r now es s n b x w h.tab ⟨h.lo, h.hi⟩ hc.1 hl hg).mono fun e w' ⟨he, ht, hmv⟩ => ⟨he, _, ⟨ht, isL_with h.isL (perm_upd (isL_names h.isL) h.tab.nodup hm rfl), fun y hy => ?_, withL_len _ (.inr ⟨x, (isL_mem h.isL).2 ⟨b, hm⟩, rfl⟩) h.few, h.lo, h.hi⟩, Grew.of_blocks (updT_blocks _ _ _), hmv⟩
      rcases withL_mem.1 hy with rfl | ⟨hy, -⟩
      · exact hl
      · exact h.good y hy
  · rw [if_neg hc]
    refine (keep_arg p r now es s n w h.tab ?_).mono fun e w' ⟨he, hb⟩ => ⟨he, es, h.below hb, Grew.refl _ _, MovS.ofBelow hb⟩
    cases hq : namedB s with
    | false => exact .inl rfl
    | true => exact .inr (by simpa [hq] using hc)
end Go.Proofs.Ytojeombljhmkaaa
