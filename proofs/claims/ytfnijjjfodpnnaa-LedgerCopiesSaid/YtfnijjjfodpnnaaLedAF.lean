/- The document's ledger: each turn, whatever it answers. -/
import Derived.Test.YtfnijjjfodpnnaaLedAE
namespace Go.Proofs.Ytfnijjjfodpnnaa
open Go.RowKit Go.Shelf
set_option linter.unusedVariables false
set_option linter.unusedSimpArgs false
/-- What a turn answers, and what is left. -/
def RefRes (w w' : World) (share room : Int) (ve vl : Value) (y : Int) (er' : List En) (gs' : List Ling) (e : Ending) : Prop :=
  ∃ ve' vl', e = .returned (.tuple #[refV share room ve' vl', .int .i64 y]) ∧ RefAt w' ve' vl' er' gs' ∧ (FarS w.heap.size ve' ∨ ve' = ve) ∧ (FarS w.heap.size vl' ∨ vl' = vl)
def giveRL (share room : Int) (er : List En) (gs : List Ling) (x : En) (now : Int) : List En := if fitsY share room er gs x now = 0 then insE x er else er
theorem give_refS (share room : Int) (ve vl : Value) (er : List En) (gs : List Ling) (x : En) (now : Int) (w : World) (h : RefAt w ve vl er gs) (hF : Fine er gs) :
    Calls Try.prog 29 #[refV share room ve vl, .agg #[.int .i64 x.i, .int .i64 x.r, .int .i64 x.m], .int .i64 now] w fun e w' => RefRes w w' share room ve vl (fitsY share room er gs x now) (giveRL share room er gs x now) gs e ∧ Below w.heap.size w w' := by
  unfold giveRL
  by_cases hy : fitsY share room er gs x now = 0
  · refine (give_ref_ok share room ve vl er gs x now w h hF hy).mono ?_
    rintro e w' ⟨⟨v', rfl, hs, hf⟩, hb⟩
    rw [if_pos hy, hy]
    exact ⟨⟨v', vl, rfl, ⟨hs, h.g.below hb⟩, Or.inl hf, Or.inr rfl⟩, hb⟩
  · refine (give_ref_no share room ve vl er gs x now w h hF hy).mono ?_
    rintro e w' ⟨rfl, hb⟩
    rw [if_neg hy]
    exact ⟨⟨ve, vl, rfl, h.below hb, Or.inr rfl, Or.inr rfl⟩, hb⟩
theorem findN_spec (es : List En) (i : Int) : (findN es i = -1 ∧ i ∉ es.map En.i) ∨ ∃ (k : Nat) (x : En), findN es i = (k : Int) ∧ es[k]? = some x ∧ x.i = i := by
  by_cases h : i ∈ es.map En.i
  · right
    induction es with
    | nil => simp at h
    | cons y l ih =>
      by_cases hy : y.i = i
      · exact ⟨0, y, findN_hit (y :: l) i 0 y rfl hy (fun k z hk => absurd hk (Nat.not_lt_zero _)), rfl, hy⟩
      · have hl : i ∈ l.map En.i := by
          rcases List.mem_cons.1 (by simpa using h : i ∈ y.i :: l.map En.i) with h | h
          · exact absurd h.symm hy
          · exact h
        obtain ⟨k, x, h1, h2, h3⟩ := ih hl
        have hfirst : ∀ (j : Nat) (z : En), j < k → l[j]? = some z → z.i ≠ i := by
          intro j z hj hz hzi
          have hmin : ∃ j0 z0, l[j0]? = some z0 ∧ z0.i = i ∧ (∀ (m : Nat) (u : En), m < j0 → l[m]? = some u → u.i ≠ i) ∧ j0 ≤ j := by
            have : ∀ n, ∀ j z, j ≤ n → l[j]? = some z → z.i = i → ∃ j0 z0, l[j0]? = some z0 ∧ z0.i = i ∧ (∀ (m : Nat) (u : En), m < j0 → l[m]? = some u → u.i ≠ i) ∧ j0 ≤ j := by
              intro n
              induction n with
              | zero => exact fun j z hj hz hzi => ⟨j, z, hz, hzi, fun m u hm => by omega, Nat.le_refl _⟩
              | succ n ihn =>
                intro j z hj hz hzi
                by_cases hex : ∃ (m : Nat) (u : En), m < j ∧ l[m]? = some u ∧ u.i = i
                · obtain ⟨m, u, hm, hu, hui⟩ := hex
                  obtain ⟨j0, z0, q1, q2, q3, q4⟩ := ihn m u (by omega) hu hui
                  exact ⟨j0, z0, q1, q2, q3, by omega⟩
                · exact ⟨j, z, hz, hzi, fun m u hm hu hui => hex ⟨m, u, hm, hu, hui⟩, Nat.le_refl _⟩
            exact this j j z (Nat.le_refl _) hz hzi
          obtain ⟨j0, z0, q1, q2, q3, q4⟩ := hmin
          have := findN_hit l i j0 z0 q1 q2 q3
          rw [h1] at this
          omega
        refine ⟨k + 1, x, ?_, by simpa using h2, h3⟩
        refine findN_hit (y :: l) i (k + 1) x (by simpa using h2) h3 (fun m u hm hu => ?_)
        cases m with
        | zero => simp at hu; subst hu; exact hy
        | succ m => exact hfirst m u (by omega) (by simpa using hu)
  · left
    exact ⟨findN_none es i fun k y hy hyi => h (hyi ▸ List.mem_map.2 ⟨y, List.mem_of_getElem? hy, rfl⟩), h⟩
/-- Of entries whose IDs are all others, the ones with another ID than the one at a place. -/
theorem del_at : ∀ (es : List En) (k : Nat) (x : En), (es.map En.i).Nodup → es[k]? = some x → es.take k ++ es.drop (k + 1) = delE es x.i
  | [], _, _, _, h => by simp at h
  | y :: l, 0, x, hn, h => by
    simp at h
    subst h
    simp only [List.map_cons, List.nodup_cons] at hn
    have : l.filter (fun e => decide (e.i ≠ y.i)) = l := filter_ne_self hn.1
    show [] ++ l = delE (y :: l) y.i
    unfold delE
    rw [List.filter_cons_of_neg (by simp), this, List.nil_append]
  | y :: l, k + 1, x, hn, h => by
    simp only [List.map_cons, List.nodup_cons] at hn
    have ih := del_at l k x hn.2 (by simpa using h)
    have hne : y.i ≠ x.i := fun e => hn.1 (e ▸ List.mem_map.2 ⟨x, List.mem_of_getElem? (by simpa using h : l[k]? = some x), rfl⟩)
    simp only [List.take_succ_cons, List.drop_succ_cons, List.cons_append]
    rw [ih]
    simp [delE, hne]
theorem oldE_at {es : List En} {k : Nat} {x : En} (hn : (es.map En.i).Nodup) (h : es[k]? = some x) : getE es x.i = some x ∧ oldE es x.i = x := by
  have := getE_self hn (List.mem_of_getElem? h)
  exact ⟨this, by rw [oldE, this]; rfl⟩
def freeRY (er : List En) (i till : Int) : Int := if (wi i 0 2147483647 && wi till 0 4611686018427387904) = false then 2 else if (getE er i).isSome then 0 else 5
theorem getE_not {es : List En} {i : Int} (h : i ∉ es.map En.i) : getE es i = none := by
  unfold getE
  rw [List.find?_eq_none]
  intro x hx
  simp only [decide_eq_true_eq]
  exact fun e => h (e ▸ List.mem_map.2 ⟨x, hx, rfl⟩)
theorem free_refS (share room : Int) (ve vl : Value) (er : List En) (gs : List Ling) (i till : Int) (w : World) (h : RefAt w ve vl er gs) (hF : Fine er gs) (hn : (er.map En.i).Nodup) :
    Calls Try.prog 31 #[refV share room ve vl, .int .i64 i, .int .i64 till] w fun e w' => RefRes w w' share room ve vl (freeRY er i till) (if freeRY er i till = 0 then delE er i else er) (if freeRY er i till = 0 then lingG gs (oldE er i).r till else gs) e ∧ Below w.heap.size w w' := by
  unfold freeRY
  cases hq : (wi i 0 2147483647 && wi till 0 4611686018427387904) with
  | false =>
    refine (free_ref_no share room ve vl er gs i till w h (Or.inl hq)).mono ?_
    rintro e w' ⟨rfl, hb⟩
    rw [hq]
    exact ⟨⟨ve, vl, rfl, h.below hb, Or.inr rfl, Or.inr rfl⟩, hb⟩
  | true =>
    rcases findN_spec er i with ⟨h1, h2⟩ | ⟨k, x, h1, h2, h3⟩
    · refine (free_ref_no share room ve vl er gs i till w h (Or.inr (by omega))).mono ?_
      rintro e w' ⟨rfl, hb⟩
      rw [hq, getE_not h2]
      exact ⟨⟨ve, vl, rfl, h.below hb, Or.inr rfl, Or.inr rfl⟩, hb⟩
    · have hq' : wi i 0 2147483647 = true ∧ wi till 0 4611686018427387904 = true := by simpa using hq
      have ho := oldE_at hn h2
      rw [h3] at ho
      refine (free_ref_ok share room ve vl er gs i till k x w h hF hq'.1 hq'.2 h1 h2).mono ?_
      rintro e w' ⟨⟨v', vl', rfl, hs1, hs2, hf1, hf2⟩, hb⟩
      rw [ho.1, ho.2]
      have hd := del_at er k x hn h2
      rw [h3] at hd
      refine ⟨⟨v', vl', rfl, ⟨?_, hs2⟩, Or.inl hf1, hf2.imp id (·.1)⟩, hb⟩
      rw [← hd]
      exact hs1
def changeRY (share room : Int) (er : List En) (gs : List Ling) (x : En) (now till : Int) : Int := if mayB x [now, till] = false then 2 else if (getE er x.i).isSome then roomY share room (delE er x.i) gs x now else 5
theorem change_refS (share room : Int) (ve vl : Value) (er : List En) (gs : List Ling) (x : En) (now till : Int) (w : World) (h : RefAt w ve vl er gs) (hF : Fine er gs) (hn : (er.map En.i).Nodup) :
    Calls Try.prog 30 #[refV share room ve vl, .agg #[.int .i64 x.i, .int .i64 x.r, .int .i64 x.m], .int .i64 now, .int .i64 till] w fun e w' => RefRes w w' share room ve vl (changeRY share room er gs x now till) (if changeRY share room er gs x now till = 0 then insE x (delE er x.i) else er) (if changeRY share room er gs x now till = 0 then lingG gs ((oldE er x.i).r - x.r) till else gs) e ∧ Below w.heap.size w w' := by
  unfold changeRY
  cases hm : mayB x [now, till] with
  | false =>
    refine (change_ref_no share room ve vl er gs x now till w h (Or.inl hm)).mono ?_
    rintro e w' ⟨rfl, hb⟩
    rw [hm]
    exact ⟨⟨ve, vl, rfl, h.below hb, Or.inr rfl, Or.inr rfl⟩, hb⟩
  | true =>
    rcases findN_spec er x.i with ⟨h1, h2⟩ | ⟨k, old, h1, h2, h3⟩
    · refine (change_ref_no share room ve vl er gs x now till w h (Or.inr (by omega))).mono ?_
      rintro e w' ⟨rfl, hb⟩
      rw [hm, getE_not h2]
      exact ⟨⟨ve, vl, rfl, h.below hb, Or.inr rfl, Or.inr rfl⟩, hb⟩
    · have ho := oldE_at hn h2
      rw [h3] at ho
      have hd := del_at er k old hn h2
      rw [h3] at hd
      have hc := change_ref share room ve vl er gs x now till k old w h hF hm h1 h2
      rw [hd] at hc
      refine hc.mono ?_
      rintro e w' ⟨⟨hy, rfl⟩ | ⟨hy, v', vl', rfl, hs1, hs2, hf1, hf2⟩, hb⟩
      · rw [ho.1]
        simp only [Option.isSome_some, if_true, Bool.true_eq_false, if_false, if_neg hy]
        exact ⟨⟨ve, vl, rfl, h.below hb, Or.inr rfl, Or.inr rfl⟩, hb⟩
      · rw [ho.1, ho.2]
        simp only [Option.isSome_some, if_true, Bool.true_eq_false, if_false, hy]
        exact ⟨⟨v', vl', rfl, ⟨hs1, hs2⟩, Or.inl hf1, hf2.imp id (·.1)⟩, hb⟩
end Go.Proofs.Ytfnijjjfodpnnaa
