/- Ledger: what a turn keeps: plain law. -/
import Derived.Test.YtfnijjjfodpnnaaLedL
namespace Go.Proofs.Ytfnijjjfodpnnaa
open Go.RowKit Go.Shelf

theorem LedgerAt.nodup {w : World} {p r : Nat} {share room : Int} {es : List En} {gs : List Ling} (h : LedgerAt w p r share room es gs) : (es.map En.i).Nodup := by
  obtain ⟨v, h1, h2, ees, cl, h3, h4, h5, h6, h7⟩ := h
  have e : (enL es).map (·.1) = es.map En.i := by simp [enL, Function.comp_def]
  rw [e] at h7
  exact h7
theorem filter_ne_self {l : List En} {i : Int} (h : i ∉ l.map En.i) : l.filter (fun e => decide (e.i ≠ i)) = l :=
  List.filter_eq_self.2 fun y hy => by simpa using fun e : y.i = i => h (e ▸ List.mem_map.2 ⟨y, hy, rfl⟩)
theorem map_ne_self {l : List En} {x : En} (h : x.i ∉ l.map En.i) : l.map (fun e => if e.i = x.i then x else e) = l := by
  have e : ∀ y ∈ l, (if y.i = x.i then x else y) = id y := fun y hy => if_neg (fun e : y.i = x.i => h (e ▸ List.mem_map.2 ⟨y, hy, rfl⟩))
  rw [List.map_congr_left e, List.map_id]
theorem sum_del : ∀ (es : List En) (i : Int), (es.map En.i).Nodup → sumR (delE es i) + (oldE es i).r = sumR es ∧ sumM (delE es i) + (oldE es i).m = sumM es
  | [], i, _ => by simp [delE, oldE, getE, sumR, sumM]
  | e :: l, i, h => by
    simp only [List.map_cons, List.nodup_cons] at h
    by_cases hi : e.i = i
    · subst hi
      have h1 : delE (e :: l) e.i = l := by
        unfold delE
        rw [List.filter_cons_of_neg (by simp)]
        exact filter_ne_self h.1
      have h2 : oldE (e :: l) e.i = e := by simp [oldE, getE]
      rw [h1, h2]
      simp only [sumR, sumM]
      omega
    · have ih := sum_del l i h.2
      have h1 : delE (e :: l) i = e :: delE l i := by
        unfold delE
        rw [List.filter_cons_of_pos (by simpa using hi)]
      have h2 : oldE (e :: l) i = oldE l i := by simp [oldE, getE, hi]
      rw [h1, h2]
      simp only [sumR, sumM]
      omega
theorem getE_none {es : List En} {i : Int} (h : (getE es i).isSome = false) : i ∉ es.map En.i ∧ oldE es i = ⟨0, 0, 0⟩ := by
  have h0 : getE es i = none := by simpa using h
  refine ⟨fun hm => ?_, by simp [oldE, h0]⟩
  obtain ⟨y, hy, he⟩ := List.mem_map.1 hm
  have := List.find?_eq_none.1 h0 y hy
  simp [he] at this
theorem getE_mem {es : List En} {i : Int} (h : (getE es i).isSome = true) : i ∈ es.map En.i := by
  cases hg : getE es i with
  | none => rw [hg] at h; cases h
  | some y =>
    have h1 := List.mem_of_find?_eq_some hg
    have h2 := List.find?_some hg
    exact List.mem_map.2 ⟨y, h1, by simpa using h2⟩
theorem sum_put (es : List En) (x : En) (h : (es.map En.i).Nodup) : sumR (putE es x) = sumR es - (oldE es x.i).r + x.r ∧ sumM (putE es x) = sumM es - (oldE es x.i).m + x.m := by
  cases hg : (getE es x.i).isSome with
  | false =>
    have h1 := (getE_none hg).2
    rw [h1, putE, hg, if_neg (by decide), sumR_append, sumM_append]
    simp [sumR, sumM]
  | true =>
    rw [putE, hg, if_pos rfl]
    have hm := getE_mem hg
    clear hg
    have key : ∀ (l : List En), (l.map En.i).Nodup → x.i ∈ l.map En.i → sumR (l.map fun e => if e.i = x.i then x else e) = sumR l - (oldE l x.i).r + x.r ∧ sumM (l.map fun e => if e.i = x.i then x else e) = sumM l - (oldE l x.i).m + x.m := by
      intro l
      induction l with
      | nil => intro _ hm; simp at hm
      | cons e l ih =>
        intro hn hm
        simp only [List.map_cons, List.nodup_cons] at hn
        by_cases hi : e.i = x.i
        · have h1 : l.map (fun e => if e.i = x.i then x else e) = l := map_ne_self (hi ▸ hn.1)
          have h2 : oldE (e :: l) x.i = e := by simp [oldE, getE, hi]
          rw [List.map_cons, h1, h2, if_pos hi]
          simp only [sumR, sumM]
          omega
        · have hm2 : x.i ∈ l.map En.i := by
            rcases List.mem_cons.1 hm with h | h
            · exact absurd h.symm hi
            · exact h
          have ih2 := ih hn.2 hm2
          have h2 : oldE (e :: l) x.i = oldE l x.i := by simp [oldE, getE, hi]
          rw [List.map_cons, h2, if_neg hi]
          simp only [sumR, sumM]
          omega
    exact key es h hm
theorem takG_ling (gs : List Ling) (n till now : Int) : takG (lingG gs n till) now = takG gs now + (if 0 < n ∧ now < till then n else 0) := by
  unfold lingG
  by_cases h1 : 0 < n
  · rw [if_pos h1]
    unfold takG
    rw [List.filter_append, sumG_append]
    by_cases h2 : now < till <;> simp [h1, h2, sumG]
  · rw [if_neg h1, if_neg (fun h => h1 h.1)]
    omega

/-- What holds of a ledger between turns of the law: at each later tick no more is taken than there is. -/
structure Holds (share room : Int) (es : List En) (gs : List Ling) (now : Int) (n : Nat) : Prop where
  fine : Fine es gs
  el : es.length ≤ 32
  gl : gs.length ≤ n
  rate : sumR es + takG gs now ≤ share
  room : sumM es ≤ room
theorem takG_anti {gs : List Ling} (h : ∀ x ∈ gs, 0 ≤ x.r ∧ x.r ≤ 1000000) {a b : Int} (hab : a ≤ b) : takG gs b ≤ takG gs a := by
  induction gs with
  | nil => simp [takG, sumG]
  | cons x l ih =>
    have h1 := h x (by simp)
    have h2 := ih fun y hy => h y (by simp [hy])
    unfold takG at h2 ⊢
    by_cases ha : a < x.u <;> by_cases hb : b < x.u <;> simp only [List.filter_cons, ha, hb, decide_true, decide_false, if_true, if_false, Bool.false_eq_true, sumG] <;> omega
theorem Holds.later {share room : Int} {es : List En} {gs : List Ling} {a b : Int} {n : Nat} (h : Holds share room es gs a n) (hab : a ≤ b) : Holds share room es gs b n :=
  ⟨h.fine, h.el, h.gl, by have := takG_anti h.fine.g hab; have := h.rate; omega, h.room⟩
theorem Holds.more {share room : Int} {es : List En} {gs : List Ling} {a : Int} {n m : Nat} (h : Holds share room es gs a n) (hnm : n ≤ m) : Holds share room es gs a m := ⟨h.fine, h.el, by have := h.gl; omega, h.rate, h.room⟩
theorem lingG_fine {gs : List Ling} {es : List En} (h : Fine es gs) {n till : Int} (hn : n ≤ 1000000) (hl : gs.length < 1000000) : Fine es (lingG gs n till) := by
  unfold lingG
  by_cases h1 : 0 < n
  · rw [if_pos h1]
    refine ⟨h.e, fun y hy => ?_, h.el, by simp; omega⟩
    rcases List.mem_append.1 hy with hy | hy
    · exact h.g y hy
    · simp at hy; subst hy; simp; omega
  · rw [if_neg h1]; exact h
theorem lingG_len (gs : List Ling) (n till : Int) : (lingG gs n till).length ≤ gs.length + 1 := by
  unfold lingG; split <;> simp
theorem holds_give {share room : Int} {es : List En} {gs : List Ling} {now : Int} {n : Nat} (h : Holds share room es gs now n) (hn : (es.map En.i).Nodup) (x : En) : Holds share room (giveE es x (firstQ (fitsQs share room es gs x now))) gs now n := by
  unfold giveE
  by_cases hy : firstQ (fitsQs share room es gs x now) = 0
  · rw [if_pos hy]
    have hbd := sumR_bd h.fine.e
    have hgb := takG_bd h.fine.g h.fine.gl now
    have hel := h.fine.el
    unfold fitsQs roomQs at hy
    dsimp only at hy
    cases hm : mayB x [now] with
    | false => simp [firstQ, hm] at hy
    | true =>
      have hx := mayB_bd hm
      cases hg : (getE es x.i).isSome with
      | true => simp [firstQ, hm, hg] at hy
      | false =>
        by_cases h32 : 32 ≤ es.length
        · simp [firstQ, hm, hg, h32] at hy
        · rw [tooMuch_in (by omega) (by omega), tooMuch_in (by omega) (by omega)] at hy
          by_cases t1 : share < sumR es + takG gs now - 0 + x.r
          · simp only [firstQ, hm, hg, h32, t1, List.cons_append, List.nil_append, decide_true, decide_false, Bool.not_true, Bool.false_eq_true, if_false, if_true] at hy
            exact absurd hy (by decide)
          · by_cases t2 : room < sumM es - 0 + x.m
            · simp only [firstQ, hm, hg, h32, t1, t2, List.cons_append, List.nil_append, decide_true, decide_false, Bool.not_true, Bool.false_eq_true, if_false, if_true] at hy
              exact absurd hy (by decide)
            · have hs := sum_put es x hn
              rw [(getE_none hg).2] at hs
              dsimp only at hs
              have hpe : putE es x = es ++ [x] := by rw [putE, hg, if_neg (by decide)]
              refine ⟨putE_fine h.fine ⟨hx.2.2.1, hx.2.2.2.1, hx.2.2.2.2.1, hx.2.2.2.2.2⟩ (Or.inr (by omega)), by rw [hpe]; simp; omega, h.gl, by omega, by omega⟩
  · rw [if_neg hy]; exact h
theorem holds_change {share room : Int} {es : List En} {gs : List Ling} {now : Int} {n : Nat} (h : Holds share room es gs now n) (hn : (es.map En.i).Nodup) (hg5 : n < 1000000) (x : En) (till : Int) (hy : firstQ (changeQs share room es gs x now till) = 0) : Holds share room (putE es x) (lingG gs ((oldE es x.i).r - x.r) till) now (n + 1) := by
  have hbd := sumR_bd h.fine.e
  have hgb := takG_bd h.fine.g h.fine.gl now
  have hel := h.fine.el
  have hob := old_bd h.fine x.i
  obtain ⟨hm, hg⟩ := change_ok hy
  have hx := mayB_bd hm
  unfold changeQs roomQs at hy
  rw [tooMuch_in (by omega) (by omega), tooMuch_in (by omega) (by omega)] at hy
  by_cases t1 : share < sumR es + takG gs now - (oldE es x.i).r + x.r
  · simp only [firstQ, hm, hg, t1, List.cons_append, List.nil_append, decide_true, Bool.not_true, Bool.false_eq_true, if_false, if_true] at hy
    exact absurd hy (by decide)
  · by_cases t2 : room < sumM es - (oldE es x.i).m + x.m
    · simp only [firstQ, hm, hg, t1, t2, List.cons_append, List.nil_append, decide_true, decide_false, Bool.not_true, Bool.false_eq_true, if_false, if_true] at hy
      exact absurd hy (by decide)
    · have hs := sum_put es x hn
      have hgl := h.gl
      have hr := h.rate
      have hpl : (putE es x).length ≤ 32 := by rw [putE, hg, if_pos rfl, List.length_map]; exact h.el
      refine ⟨lingG_fine (putE_fine h.fine ⟨hx.2.2.1, hx.2.2.2.1, hx.2.2.2.2.1, hx.2.2.2.2.2⟩ (Or.inl hg)) (by omega) (by omega), hpl, by have := lingG_len gs ((oldE es x.i).r - x.r) till; omega, ?_, by omega⟩
      rw [takG_ling]
      split <;> omega
theorem holds_free {share room : Int} {es : List En} {gs : List Ling} {now : Int} {n : Nat} (h : Holds share room es gs now n) (hn : (es.map En.i).Nodup) (hg5 : n < 1000000) (i till : Int) : Holds share room (delE es i) (lingG gs (oldE es i).r till) now (n + 1) := by
  have hbd := sumR_bd h.fine.e
  have hob := old_bd h.fine i
  have hs := sum_del es i hn
  have hgl := h.gl
  have hr := h.rate
  have hro := h.room
  have hel := h.el
  have hdl : (delE es i).length ≤ es.length := List.length_filter_le _ _
  have hF : Fine (delE es i) gs := ⟨fun y hy => h.fine.e y (List.mem_filter.1 hy).1, h.fine.g, by omega, h.fine.gl⟩
  refine ⟨lingG_fine hF (by omega) (by omega), by omega, by have := lingG_len gs (oldE es i).r till; omega, ?_, by omega⟩
  rw [takG_ling]
  split <;> omega
end Go.Proofs.Ytfnijjjfodpnnaa
