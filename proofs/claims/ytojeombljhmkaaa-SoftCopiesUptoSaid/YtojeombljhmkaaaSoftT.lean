/- Soft: Hear, Drop, Get, Go, Len, Now in the order of names. -/
import Derived.Test.YtojeombljhmkaaaSoftS
namespace Go.Proofs.Ytojeombljhmkaaa
open Go.RowKit Go.Shelf Go.Sort
set_option linter.unusedVariables false
set_option linter.unusedSimpArgs false
attribute [local go_sem] Oper.semAt_some
theorem findR_no {es : List (Nat × Th)} {s : ByteArray} (hq : namedB s = true) (hg : getT es s = none) : (findR es s).2 = 5 := by
  unfold findR
  rw [if_pos hq, hg]
theorem findR_bad {es : List (Nat × Th)} {s : ByteArray} (hq : ¬ namedB s = true) : (findR es s).2 = 2 := by
  unfold findR
  rw [if_neg hq]
theorem hear_all (p r : Nat) (now : Int) (L : List Th) (es : List (Nat × Th)) (s : ByteArray) (w : World) (h : Tb w p r now L es) :
    Calls Try.prog 16 #[.pointer (some ⟨p, 0, none⟩), .string s] w fun e w' => e = .returned (.int .i64 (hearL now L s).2) ∧ Did p r es w now (hearL now L s).1 w' := by
  unfold hearL
  by_cases hq : namedB s = true
  · rw [if_pos hq, findL_get h.isL]
    cases hg : getT es s with
    | none =>
      have := hear_no p r now es s w h.tab (by rw [findR_no hq hg]; decide)
      rw [findR_no hq hg] at this
      exact this.mono fun e w' ⟨he, hb⟩ => ⟨he, es, h.below hb, Grew.refl _ _, MovS.ofBelow hb⟩
    | some e =>
      obtain ⟨b, x⟩ := e
      obtain ⟨hm, hnm⟩ := getT_mem hg
      have hxg := h.good x ((isL_mem h.isL).2 ⟨b, hm⟩)
      refine (hear_yes p r now es s b x w h.tab ⟨h.lo, h.hi⟩ hq hg).mono fun e w' ⟨he, ht, hmv⟩ => ⟨he, _, ⟨ht, isL_with h.isL (perm_upd (isL_names h.isL) h.tab.nodup hm rfl), fun y hy => ?_, withL_len _ (.inr ⟨x, (isL_mem h.isL).2 ⟨b, hm⟩, rfl⟩) h.few, h.lo, h.hi⟩, Grew.of_blocks (updT_blocks _ _ _), hmv⟩
      rcases withL_mem.1 hy with rfl | ⟨hy, -⟩
      · exact hxg
      · exact h.good y hy
  · rw [if_neg hq]
    have := hear_no p r now es s w h.tab (by rw [findR_bad hq]; decide)
    rw [findR_bad hq] at this
    exact this.mono fun e w' ⟨he, hb⟩ => ⟨he, es, h.below hb, Grew.refl _ _, MovS.ofBelow hb⟩
theorem drop_all (p r : Nat) (now : Int) (L : List Th) (es : List (Nat × Th)) (s : ByteArray) (w : World) (h : Tb w p r now L es) :
    Calls Try.prog 26 #[.pointer (some ⟨p, 0, none⟩), .string s] w fun e w' => e = .returned (.int .i64 (dropL L s).2) ∧ Did p r es w now (dropL L s).1 w' := by
  unfold dropL
  by_cases hq : namedB s = true
  · rw [if_pos hq, findL_get h.isL]
    cases hg : getT es s with
    | none =>
      have := drop_no p r now es s w h.tab (by rw [findR_no hq hg]; decide)
      rw [findR_no hq hg] at this
      exact this.mono fun e w' ⟨he, hb⟩ => ⟨he, es, h.below hb, Grew.refl _ _, MovS.ofBelow hb⟩
    | some e =>
      obtain ⟨b, x⟩ := e
      refine (drop_yes p r now es s b x w h.tab hq hg).mono fun e w' ⟨he, ht, hmv⟩ => ⟨he, _, ⟨ht, isL_filter h.isL _, fun y hy => h.good y (List.mem_filter.1 hy).1, Nat.le_trans (List.length_filter_le _ _) h.few, h.lo, h.hi⟩, fun e he => .inl (List.mem_map.2 ⟨e, (List.mem_filter.1 he).1, rfl⟩), hmv⟩
  · rw [if_neg hq]
    have := drop_no p r now es s w h.tab (by rw [findR_bad hq]; decide)
    rw [findR_bad hq] at this
    exact this.mono fun e w' ⟨he, hb⟩ => ⟨he, es, h.below hb, Grew.refl _ _, MovS.ofBelow hb⟩
/-- What Get tells. -/
def getL (L : List Th) (s : ByteArray) : Th × Bool := if namedB s = true then (match findL L s with | none => (⟨ByteArray.empty, 0, 0, 0⟩, false) | some x => (x, true)) else (⟨ByteArray.empty, 0, 0, 0⟩, false)
theorem get_all (p r : Nat) (now : Int) (L : List Th) (es : List (Nat × Th)) (s : ByteArray) (w : World) (h : Tb w p r now L es) :
    Calls Try.prog 14 #[.pointer (some ⟨p, 0, none⟩), .string s] w fun e w' => e = .returned (.tuple #[(getL L s).1.val, .bool (getL L s).2]) ∧ Below w.heap.size w w' := by
  unfold getL
  by_cases hq : namedB s = true
  · rw [if_pos hq, findL_get h.isL]
    cases hg : getT es s with
    | none => exact get_no p r now es s w h.tab (by rw [findR_no hq hg]; decide)
    | some e =>
      obtain ⟨b, x⟩ := e
      exact get_yes p r now es s b x w h.tab hq hg
  · rw [if_neg hq]
    exact get_no p r now es s w h.tab (by rw [findR_bad hq]; decide)
/-- The things that are forgotten, in their order. -/
def goneL (n : Int) (L : List Th) : List Th := (L.filter fun x => decide (x.forgot ≤ n)).mergeSort fun x y => !ltL y x
theorem goneL_is {n : Int} {L : List Th} (hL : ByName L) : GoneL n L (goneL n L) := by
  have hp : (goneL n L).Perm (L.filter fun x => decide (x.forgot ≤ n)) := List.mergeSort_perm _ _
  have hs : (goneL n L).Pairwise fun x y => (!ltL y x) = true := List.pairwise_mergeSort (le := fun x y => !ltL y x)
    (fun a b c h1 h2 => by simp only [Bool.not_eq_true'] at *; exact swoL.ntrans _ _ _ h2 h1)
    (fun a b => by
      cases h1 : ltL b a with
      | false => simp
      | true =>
        cases h2 : ltL a b with
        | false => simp
        | true => have := swoL.trans _ _ _ h1 h2; rw [swoL.irrefl] at this; cases this) _
  refine ⟨hp, ?_⟩
  have hne := name_ne (hL.filter _) hp
  rw [List.pairwise_iff_getElem] at hne hs ⊢
  intro i j hi hj hij
  have h1 := hs i j hi hj hij
  have h2 := hne i j hi hj hij
  simp only [ltL, Bool.not_eq_true', Bool.or_eq_false_iff, Bool.and_eq_false_iff, decide_eq_false_iff_not, Bool.or_eq_true, Bool.and_eq_true, decide_eq_true_eq] at h1 ⊢
  by_cases h3 : (goneL n L)[i].forgot < (goneL n L)[j].forgot
  · exact .inl h3
  · have h4 : (goneL n L)[i].forgot = (goneL n L)[j].forgot := by omega
    refine .inr ⟨h4, ?_⟩
    rcases h1.2 with h5 | h5
    · exact absurd h4.symm h5
    · cases h6 : ltS (goneL n L)[i].name (goneL n L)[j].name with
      | true => rfl
      | false => exact absurd (ltS_total h6 h5) h2
/-- A thing that was said again. -/
def saidT (n : Int) (x : Th) : Th := if x.next ≤ n then ⟨x.name, x.period, n + x.period, x.forgot⟩ else x
def goTo (n : Int) (L : List Th) : List Th := (L.filter fun x => !decide (x.forgot ≤ n)).map (saidT n)
theorem saidT_name (n : Int) (x : Th) : (saidT n x).name = x.name := by unfold saidT; split <;> rfl
theorem saidT_period (n : Int) (x : Th) : (saidT n x).period = x.period := by unfold saidT; split <;> rfl
theorem dueT_said {n : Int} {L : List Th} {es : List (Nat × Th)} (h : IsL L es) : (goT n L es).map (·.2) = (es.filter fun e => !decide (e.2.forgot ≤ n)).map fun e => saidT n e.2 := by
  unfold goT dueT
  rw [List.map_map]
  refine List.map_congr_left fun e he => ?_
  have hn := isL_names h
  obtain ⟨he1, he2⟩ := List.mem_filter.1 he
  have hiff : ((dueL n L).any fun y => decide (y.name = e.2.name)) = decide (e.2.next ≤ n) := by
    by_cases hx : e.2.next ≤ n
    · rw [decide_eq_true hx]
      refine List.any_eq_true.2 ⟨e.2, ?_, by simp⟩
      exact List.mem_filter.2 ⟨List.mem_filter.2 ⟨(isL_mem h).2 ⟨e.1, he1⟩, he2⟩, by simpa using hx⟩
    · rw [decide_eq_false hx]
      refine List.any_eq_false.2 fun y hy => ?_
      obtain ⟨hy1, hy2⟩ := List.mem_filter.1 hy
      obtain ⟨b, hb⟩ := (isL_mem h).1 (List.mem_filter.1 hy1).1
      intro hc
      have := name_inj hn hb he1 (by simpa using hc)
      subst this
      exact hx (by simpa using hy2)
  show (if _ then _ else _ : Nat × Th).2 = _
  rw [hiff]
  unfold saidT
  by_cases hx : e.2.next ≤ n
  · rw [if_pos (by simpa using hx), if_pos hx]
  · rw [if_neg (by simpa using hx), if_neg hx]
theorem isL_go {n : Int} {L : List Th} {es : List (Nat × Th)} (h : IsL L es) : IsL (goTo n L) (goT n L es) := by
  refine ⟨?_, ?_⟩
  · rw [dueT_said h]
    have := (isL_filter h fun x => !decide (x.forgot ≤ n)).1.map (saidT n)
    rw [List.map_map] at this
    exact this
  · refine List.pairwise_map.2 ((h.2.filter _).imp fun {a b} hab => ?_)
    rw [saidT_name, saidT_name]
    exact hab
/-- What an operation without new blocks has done to a table. -/
def DidIn (p r : Nat) (es : List (Nat × Th)) (w : World) (now' : Int) (L' : List Th) (w' : World) : Prop := ∃ es', Tb w' p r now' L' es' ∧ (∀ i, TSet p r es' i → TSet p r es i) ∧ MovS (TSet p r es) w w'
theorem DidIn.did {p r : Nat} {es : List (Nat × Th)} {w w' : World} {now now' : Int} {L' : List Th} (h : DidIn p r es w now' L' w') (hpr : TAt w p r now es) : Did p r es w now' L' w' := by
  obtain ⟨es', ht, hs, hm⟩ := h
  refine ⟨es', ht, fun e he => ?_, hm⟩
  rcases hs e.1 (.inr (.inr (List.mem_map.2 ⟨e, he, rfl⟩))) with h | h | h
  · exact absurd h (ht.tab.ne_p he)
  · exact absurd h (ht.tab.ne_r he)
  · exact .inl h
/-- What Go tells. -/
def GoDid (p r : Nat) (n : Int) (L : List Th) (es : List (Nat × Th)) (w : World) (e : Ending) (w' : World) : Prop :=
  ∃ u v, e = .returned (.tuple #[u, v, .int .i64 0]) ∧ w'.ownsRow w.heap.size 9 1 u (goneL n L).length (((goneL n L).map (·.name)).flatMap sCells) ∧ w'.ownsRow w.heap.size 9 1 v (dueL n L).length (((dueL n L).map (·.name)).flatMap sCells) ∧ DidIn p r es w n (goTo n L) w'
theorem go_all (N : Nat) (hN : N ≤ 1000000) (HS : Stable N) (p r : Nat) (now : Int) (L : List Th) (es : List (Nat × Th)) (n : Int) (w : World) (h : Tb w p r now L es) (hlen : L.length ≤ N) (hn1 : now ≤ n) (hn2 : n ≤ 2147483647) :
    Calls Try.prog 13 #[.pointer (some ⟨p, 0, none⟩), .int .i64 n] w (GoDid p r n L es w) := by
  refine (go_any N hN HS p r now es L n w h.tab h.isL (by rw [h.len]; exact hlen) (fun e he => by have := h.good e.2 ((isL_mem h.isL).2 ⟨e.1, he⟩); omega) hn1 hn2 (by have := h.lo; omega)).mono ?_
  rintro e w' ⟨G, u, v, hG, rfl, hu, hv, ht, hm⟩
  obtain rfl := isF_eq hG (goneL_is h.isL.2)
  refine ⟨u, v, rfl, hu, hv, _, ⟨ht, isL_go h.isL, fun x hx => ?_, ?_, by have := h.lo; omega, hn2⟩, fun i hi => ?_, hm⟩
  · obtain ⟨y, hy, rfl⟩ := List.mem_map.1 hx
    rw [saidT_period]
    exact h.good y (List.mem_filter.1 hy).1
  · unfold goTo
    rw [List.length_map]
    exact Nat.le_trans (List.length_filter_le _ _) h.few
  · rcases hi with h1 | h1 | h1
    · exact .inl h1
    · exact .inr (.inl h1)
    · unfold goT at h1
      rw [dueT_blocks] at h1
      obtain ⟨f, hf, hfe⟩ := List.mem_map.1 h1
      exact .inr (.inr (List.mem_map.2 ⟨f, (List.mem_filter.1 hf).1, hfe⟩))
theorem new_all (w : World) :
    Calls Try.prog 10 #[] w fun e w' => ∃ p r, e = .returned (.pointer (some ⟨p, 0, none⟩)) ∧ w.heap.size ≤ p ∧ w.heap.size ≤ r ∧ Tb w' p r 0 [] [] ∧ Below w.heap.size w w' :=
  (new_any w).mono fun e w' ⟨he, ht, hb⟩ => ⟨_, _, he, by omega, by omega, ⟨ht, ⟨List.Perm.refl _, List.Pairwise.nil⟩, fun x hx => by simp at hx, by simp, by omega, by omega⟩, hb⟩
theorem len_all (p r : Nat) (now : Int) (L : List Th) (es : List (Nat × Th)) (w : World) (h : Tb w p r now L es) :
    Calls Try.prog 12 #[.pointer (some ⟨p, 0, none⟩)] w fun e w' => e = .returned (.int .i64 L.length) ∧ w = w' := by
  have := len_any p r now es w h.tab
  rw [h.len] at this
  exact this
/-- A table whose blocks lie behind a place, and worlds from there. -/
theorem Did.below {p r B : Nat} {es : List (Nat × Th)} {w w' : World} {now' : Int} {L' : List Th} (h : Did p r es w now' L' w') (hs : ∀ i, TSet p r es i → B ≤ i) (hB : B ≤ w.heap.size) :
    ∃ es', Tb w' p r now' L' es' ∧ (∀ i, TSet p r es' i → B ≤ i) ∧ Below B w w' := by
  obtain ⟨es', ht, hg, hm⟩ := h
  refine ⟨es', ht, ?_, hm.below hs hB⟩
  rintro i (h | h | h)
  · exact hs i (.inl h)
  · exact hs i (.inr (.inl h))
  · obtain ⟨e, he, rfl⟩ := List.mem_map.1 h
    rcases hg e he with h | h
    · exact hs _ (.inr (.inr h))
    · omega
theorem DidIn.below {p r B : Nat} {es : List (Nat × Th)} {w w' : World} {now' : Int} {L' : List Th} (h : DidIn p r es w now' L' w') (hs : ∀ i, TSet p r es i → B ≤ i) (hB : B ≤ w.heap.size) :
    ∃ es', Tb w' p r now' L' es' ∧ (∀ i, TSet p r es' i → B ≤ i) ∧ Below B w w' ∧ (∀ i, TSet p r es' i → TSet p r es i) := by
  obtain ⟨es', ht, hg, hm⟩ := h
  exact ⟨es', ht, fun i hi => hs i (hg i hi), hm.below hs hB, hg⟩
end Go.Proofs.Ytojeombljhmkaaa
