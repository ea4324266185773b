/- Ledger and the document's: plain laws. -/
import Derived.Test.YtfnijjjfodpnnaaLedAF
import Derived.Test.YtfnijjjfodpnnaaLedX
namespace Go.Proofs.Ytfnijjjfodpnnaa
open Go.RowKit Go.Shelf
set_option linter.unusedVariables false
set_option linter.unusedSimpArgs false
/-- The document's list er for a map of es: the same entries, by IDs. -/
structure Linked (er es : List En) : Prop where
  perm : er.Perm es
  sorted : er.Pairwise fun a b => a.i < b.i
theorem Linked.nodup {er es : List En} (h : Linked er es) : (er.map En.i).Nodup := by
  rw [List.Nodup, List.pairwise_map]
  exact h.sorted.imp fun hab => by omega
theorem Linked.nodup' {er es : List En} (h : Linked er es) : (es.map En.i).Nodup := (h.perm.map En.i).nodup_iff.1 h.nodup
theorem Linked.nil : Linked [] [] := ⟨List.Perm.refl _, List.Pairwise.nil⟩
theorem Linked.len {er es : List En} (h : Linked er es) : er.length = es.length := h.perm.length_eq
theorem mem_ids {es : List En} {i : Int} : i ∈ es.map En.i ↔ ∃ x ∈ es, x.i = i := by simp
theorem Linked.get {er es : List En} (h : Linked er es) (i : Int) : getE er i = getE es i := by
  by_cases hi : i ∈ er.map En.i
  · obtain ⟨x, hx, rfl⟩ := mem_ids.1 hi
    rw [getE_self h.nodup hx, getE_self h.nodup' (h.perm.mem_iff.1 hx)]
  · rw [getE_not hi, getE_not (fun hh => hi ((h.perm.map En.i).mem_iff.2 hh))]
theorem Linked.old {er es : List En} (h : Linked er es) (i : Int) : oldE er i = oldE es i := by unfold oldE; rw [h.get]
theorem insE_perm (x : En) : ∀ l : List En, (insE x l).Perm (x :: l)
  | [] => List.Perm.refl _
  | y :: l => by
    unfold insE
    split
    · exact ((insE_perm x l).cons y).trans (List.Perm.swap x y l)
    · exact List.Perm.refl _
theorem insE_sorted (x : En) : ∀ l : List En, l.Pairwise (fun a b => a.i < b.i) → x.i ∉ l.map En.i → (insE x l).Pairwise fun a b => a.i < b.i
  | [], _, _ => by simp [insE]
  | y :: l, h, hx => by
    rw [List.pairwise_cons] at h
    simp only [List.map_cons, List.mem_cons, not_or] at hx
    unfold insE
    split
    · rename_i hlt
      rw [List.pairwise_cons]
      refine ⟨fun z hz => ?_, insE_sorted x l h.2 hx.2⟩
      rcases List.mem_cons.1 ((insE_perm x l).mem_iff.1 hz) with rfl | hz
      · exact hlt
      · exact h.1 z hz
    · rename_i hge
      have hlt : x.i < y.i := by have := hx.1; omega
      rw [List.pairwise_cons, List.pairwise_cons]
      refine ⟨fun z hz => ?_, h⟩
      rcases List.mem_cons.1 hz with rfl | hz
      · exact hlt
      · have := h.1 z hz; omega
theorem delE_perm {er es : List En} (h : er.Perm es) (i : Int) : (delE er i).Perm (delE es i) := h.filter _
theorem Linked.del {er es : List En} (h : Linked er es) (i : Int) : Linked (delE er i) (delE es i) := ⟨delE_perm h.perm i, h.sorted.filter _⟩
theorem putE_perm : ∀ (es : List En) (x : En), (es.map En.i).Nodup → (putE es x).Perm (x :: delE es x.i) := by
  intro es x hn
  cases hg : (getE es x.i).isSome with
  | false =>
    have hi := (getE_none hg).1
    have h1 : delE es x.i = es := filter_ne_self hi
    rw [putE, hg, if_neg (by decide), h1]
    exact (List.perm_append_comm (l₁ := es) (l₂ := [x]))
  | true =>
    rw [putE, hg, if_pos rfl]
    have : ∀ l : List En, (l.map En.i).Nodup → x.i ∈ l.map En.i → (l.map (fun e => if e.i = x.i then x else e)).Perm (x :: delE l x.i) := by
      intro l
      induction l with
      | nil => intro _ h; simp at h
      | cons y l ih =>
        intro hn hi
        simp only [List.map_cons, List.nodup_cons] at hn
        by_cases hy : y.i = x.i
        · have hni : x.i ∉ l.map En.i := hy ▸ hn.1
          have h2 : l.map (fun e => if e.i = x.i then x else e) = l := map_ne_self hni
          have h3 : l.filter (fun e => decide (e.i ≠ x.i)) = l := filter_ne_self hni
          unfold delE
          rw [List.map_cons, if_pos hy, h2, List.filter_cons_of_neg (by simp [hy]), h3]
        · have hi' : x.i ∈ l.map En.i := by
            rcases List.mem_cons.1 (by simpa using hi : x.i ∈ y.i :: l.map En.i) with h | h
            · exact absurd h.symm hy
            · exact h
          unfold delE
          rw [List.map_cons, if_neg hy, List.filter_cons_of_pos (by simpa using hy)]
          exact ((ih hn.2 hi').cons y).trans (List.Perm.swap x y _)
    exact this es hn (getE_mem hg)
theorem del_not (es : List En) (i : Int) : i ∉ (delE es i).map En.i := fun h => by
  obtain ⟨x, hx, hi⟩ := mem_ids.1 h
  have := (List.mem_filter.1 hx).2
  simp at this
  exact this hi
theorem Linked.put {er es : List En} (h : Linked er es) (x : En) : Linked (insE x (delE er x.i)) (putE es x) :=
  ⟨(insE_perm x _).trans (((delE_perm h.perm x.i).cons x).trans (putE_perm es x h.nodup').symm), insE_sorted x _ (h.del x.i).sorted (del_not er x.i)⟩
theorem Linked.putNew {er es : List En} (h : Linked er es) (x : En) (hg : (getE es x.i).isSome = false) : Linked (insE x er) (putE es x) := by
  have h1 : delE er x.i = er := filter_ne_self (fun hh => (getE_none hg).1 ((h.perm.map En.i).mem_iff.1 hh))
  have := h.put x
  rwa [h1] at this
theorem Linked.find {er es : List En} (h : Linked er es) (i : Int) : (0 ≤ findN er i) ↔ (getE es i).isSome = true := by
  rw [← h.get]
  rcases findN_spec er i with ⟨h1, h2⟩ | ⟨k, x, h1, h2, h3⟩
  · rw [getE_not h2, h1]; simp
  · have := (oldE_at h.nodup h2).1
    rw [h3] at this
    rw [this, h1]
    simp
theorem Linked.fine {er es : List En} {gs : List Ling} (h : Linked er es) (hF : Fine es gs) : Fine er gs := ⟨fun x hx => hF.e x (h.perm.mem_iff.1 hx), hF.g, by rw [h.len]; exact hF.el, hF.gl⟩
theorem fits_eq {er es : List En} {gs : List Ling} (h : Linked er es) (hF : Fine es gs) (share room : Int) (x : En) (now : Int) : firstQ (fitsQs share room es gs x now) = fitsY share room er gs x now := by
  unfold fitsQs fitsY roomQs
  have hm : mayB x [now] = (mayB x [] && wi now 0 4611686018427387904) := by simp [mayB]
  have hl := h.len
  have hb := sumR_bd hF.e
  have hg := takG_bd hF.g hF.gl now
  have hel := hF.el
  have hr := sumR_perm h.perm
  have hmm := sumM_perm h.perm
  cases hq : mayB x [now] with
  | false =>
    rw [← hm, hq]
    simp [firstQ]
  | true =>
    have hx := mayB_bd hq
    rw [← hm, hq]
    cases hs : (getE es x.i).isSome with
    | true =>
      rw [if_neg (by simp), if_pos ((h.find x.i).2 hs)]
      simp [firstQ]
    | false =>
      have hfn : ¬ 0 ≤ findN er x.i := fun hh => by rw [(h.find x.i).1 hh] at hs; cases hs
      rw [if_neg (by simp), if_neg hfn, tooMuch_in (by dsimp only; omega) (by dsimp only; omega), tooMuch_in (by dsimp only; omega) (by dsimp only; omega)]
      by_cases h32 : 32 ≤ es.length
      · rw [if_pos (by omega)]
        simp [firstQ, h32]
      · rw [if_neg (by omega)]
        unfold roomY
        rw [hr, hmm]
        simp only [firstQ, h32, List.cons_append, List.nil_append, Bool.not_true, decide_false, Bool.false_eq_true, if_false, Int.sub_zero, decide_eq_true_eq]
theorem change_eq {er es : List En} {gs : List Ling} (h : Linked er es) (hF : Fine es gs) (share room : Int) (x : En) (now till : Int) : firstQ (changeQs share room es gs x now till) = changeRY share room er gs x now till := by
  unfold changeQs changeRY roomQs
  have hb := sumR_bd hF.e
  have hg := takG_bd hF.g hF.gl now
  have hel := hF.el
  have hob := old_bd hF x.i
  have hsd := sum_del es x.i h.nodup'
  have hr := sumR_perm (delE_perm h.perm x.i)
  have hmm := sumM_perm (delE_perm h.perm x.i)
  cases hq : mayB x [now, till] with
  | false => simp [firstQ]
  | true =>
    have hx := mayB_bd hq
    rw [h.get]
    cases hs : (getE es x.i).isSome with
    | false => simp [firstQ]
    | true =>
      rw [if_neg (by simp), if_pos rfl, tooMuch_in (by omega) (by omega), tooMuch_in (by omega) (by omega)]
      unfold roomY
      rw [hr, hmm]
      have e1 : sumR es + takG gs now - (oldE es x.i).r + x.r = sumR (delE es x.i) + takG gs now + x.r := by omega
      have e2 : sumM es - (oldE es x.i).m + x.m = sumM (delE es x.i) + x.m := by omega
      rw [e1, e2]
      simp only [firstQ, List.cons_append, List.nil_append, Bool.not_true, Bool.false_eq_true, if_false, decide_eq_true_eq]
theorem free_eq {er es : List En} (h : Linked er es) (i till : Int) : freeY es i till = freeRY er i till := by
  unfold freeY freeRY
  rw [h.get]
end Go.Proofs.Ytfnijjjfodpnnaa
