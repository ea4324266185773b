/- Curve: slices.Equal at lines, Check. -/
import Derived.Test.YtmkjiflliejjjaaCurE
import Derived.Laws.StructEq
namespace Go.Proofs.Ytmkjiflliejjjaa
open Go.RowKit Go.Shelf Go.Sort
set_option linter.unusedVariables false
set_option linter.unusedSimpArgs false
theorem neq_ln (x y : Ln) (w : World) : (binOp .neq 39 x.val y.val).run Try.prog w = .ok (.bool (!decide (x = y))) w := by
  have e : x = y ↔ x.b = y.b ∧ x.r = y.r := by cases x; cases y; simp
  simp [go_sem]
  by_cases h1 : x.b = y.b
  · by_cases h2 : x.r = y.r <;> simp [h1, h2, e]
  · simp [h1, e]
theorem take_step {xs ys : List Ln} {k : Nat} {x : Ln} (h : xs.take k = ys.take k) (hx : xs[k]? = some x) (hy : ys[k]? = some x) : xs.take (k + 1) = ys.take (k + 1) := by
  rw [← take_snoc' hx, ← take_snoc' hy, h]
set_option maxRecDepth 100000 in
set_option maxHeartbeats 400000 in
theorem equal_ln (v u : Value) (xs ys : List Ln) (w : World) (h : SAt Ln.cells 2 w v xs) (h2 : SAt Ln.cells 2 w u ys) :
    Calls Try.prog 36 #[v, u] w fun e w' => e = .returned (.bool (decide (xs = ys))) ∧ Below w.heap.size w w' := by
  have hne := neq_ln
  have hlm := h.len
  have hlm2 := h2.len
  unfold maxLen at hlm hlm2
  obtain ⟨A, c, rfl⟩ := h.slice
  obtain ⟨A2, c2, rfl⟩ := h2.slice
  have H := Lib.hid h
  have H2 := Lib.hid h2
  clear h h2
  by_cases hl : xs.length = ys.length
  · generalize hR : decide (xs = ys) = R
    have HR := Lib.hid hR
    have hlz : ((xs.length : Nat) : Int) = ((ys.length : Nat) : Int) := by omega
    clear hR
    go_enter Try.func36, Try.ntmps36
    go_wp2_with fail
    go_loopg [13] (xs.length + 1) (fun gg s13 wr => ∃ k : Nat, k ≤ xs.length ∧ xs.length - k ≤ gg ∧ s13 = .int .i64 k ∧ Aside (xs.take k = ys.take k) ∧ Aside (Below w.heap.size w wr))
    case atStart => exact ⟨0, by omega, by omega, rfl, rfl, Below.refl _ _⟩
    case round =>
      obtain ⟨k, hk, hgg, rfl, HN, HB⟩ := hrel
      by_cases hlt : k < xs.length
      · have hlt2 : k < ys.length := by omega
        have hltz : (k : Int) < (ys.length : Int) := by omega
        have hltz2 : (k : Int) < (xs.length : Int) := by omega
        have hgk : xs[k]? = some xs[k] := List.getElem?_eq_getElem hlt
        have hgy : ys[k]? = some ys[k] := List.getElem?_eq_getElem hlt2
        generalize xs[k] = l at hgk
        generalize ys[k] = m at hgy
        rcases H.out.below HB.out with ⟨h1, h2⟩ | ⟨b, o, c', h1, _, _, hrow⟩
        · subst h2; simp at hlt
        · rcases H2.out.below HB.out with ⟨h3, h4⟩ | ⟨b2, o2, c2', h3, _, _, hrow2⟩
          · subst h4; simp at hlt2
          · simp only [Value.slice.injEq] at h1 h3
            obtain ⟨rfl, -, rfl⟩ := h1
            obtain ⟨rfl, -, rfl⟩ := h3
            obtain ⟨c0, c1⟩ := LnAt.ofRow hrow hgk
            obtain ⟨d0, d1⟩ := LnAt.ofRow hrow2 hgy
            have HK := Lib.hid hgk
            have HY := Lib.hid hgy
            have hn := hne l m
            unfold Ln.val at hn
            clear hrow hrow2 hgk hgy hne
            by_cases hq : l = m
            · have hqd : decide (l = m) = true := by simp [hq]
              rw [hqd] at hn
              have HQ := Lib.hid hq
              clear hq hqd
              go_wp2_with fail
              go_quiet (fail)
              go_wp2_with fail
              go_roundg (xs.length - (k + 1))
              case measure => omega
              case rel => exact ⟨k + 1, by omega, by omega, by go_num, take_step HN.out HK.out (HQ.out ▸ HY.out), bl_drewN HB.out _⟩
            · have hqd : decide (l = m) = false := by simp [hq]
              rw [hqd] at hn
              have HQ := Lib.hid hq
              clear hq hqd
              go_wp2_with fail
              go_quiet (fail)
              go_wp2_with fail
              go_ret
              exact ⟨by rw [← HR.out, decide_eq_false (fun h => HQ.out (by have h1 := HK.out; rw [h, HY.out] at h1; exact (Option.some.inj h1).symm))]; rfl, bl_drewN HB.out _⟩
      · obtain rfl : k = xs.length := by omega
        have hltz : ¬ ((xs.length : Nat) : Int) < ((ys.length : Nat) : Int) := by omega
        go_wp2_with fail
        go_ret
        exact ⟨by rw [← HR.out, decide_eq_true (by have h1 := HN.out; rw [List.take_length, hl, List.take_length] at h1; exact h1)]; rfl, HB.out⟩
  · have hd : decide (xs = ys) = false := decide_eq_false (fun h => hl (by rw [h]))
    rw [hd]
    have hlz : ¬ ((xs.length : Nat) : Int) = ((ys.length : Nat) : Int) := by omega
    have hlb : (((xs.length : Nat) : Int) == ((ys.length : Nat) : Int)) = false := beq_eq_false_iff_ne.2 hlz
    go_enter Try.func36, Try.ntmps36
    go_wp2_with fail
    go_ret
    exact ⟨rfl, Below.refl _ _⟩
def normRB : List Ln → Bool
  | c :: b :: a :: t => (decide (b.b < c.b) && decide (c.r < b.r)) && (!needB a b c && normRB (b :: a :: t))
  | [c, b] => decide (b.b < c.b) && decide (c.r < b.r)
  | _ => true
theorem normRB_iff : ∀ s, normRB s = true ↔ NormR s
  | [] => by simp [normRB, NormR]
  | [_] => by simp [normRB, NormR]
  | [c, b] => by simp [normRB, NormR]
  | c :: b :: a :: t => by
    have ih := normRB_iff (b :: a :: t)
    simp only [normRB, NormR, Bool.and_eq_true, decide_eq_true_eq, Bool.not_eq_true']
    rw [ih]
theorem leLn_anti {x y : Ln} (h1 : leLn x y) (h2 : leLn y x) : x = y := by
  unfold leLn at *
  cases x
  cases y
  simp only at h1 h2
  congr 1 <;> omega
theorem sorted_one : ∀ {a b : List Ln}, a.Perm b → a.Pairwise leLn → b.Pairwise leLn → a = b
  | [], b, h, _, _ => (List.nil_perm.1 h).symm
  | x :: a, [], h, _, _ => absurd h.length_eq (by simp)
  | x :: a, y :: b, h, ha, hb => by
    rw [List.pairwise_cons] at ha hb
    have hxy : x = y := by
      have h1 : x ∈ y :: b := h.mem_iff.1 (by simp)
      have h2 : y ∈ x :: a := h.mem_iff.2 (by simp)
      rcases List.mem_cons.1 h1 with h1 | h1
      · exact h1
      · rcases List.mem_cons.1 h2 with h2 | h2
        · exact h2.symm
        · exact leLn_anti (ha.1 y h2) (hb.1 x h1)
    subst hxy
    rw [sorted_one (List.Perm.cons_inv h) ha.2 hb.2]
theorem sorted_of_norm : ∀ {s : List Ln}, NormR s → s.reverse.Pairwise leLn := by
  intro s h
  rw [List.pairwise_reverse]
  induction s with
  | nil => exact List.Pairwise.nil
  | cons x s ih =>
    rw [List.pairwise_cons]
    exact ⟨fun u hu => Or.inl (h.le u hu).1, ih h.tail⟩
theorem low_norm {ls out : List Ln} (h : IsLow ls out) : NormR out.reverse := by
  obtain ⟨ys, hp, hs, rfl⟩ := h
  rw [List.reverse_reverse]
  exact (fold_inv ys [] [] (by simp) hs trivial (by simp) (fun y hy => by simp at hy)).1
theorem low_mem {ls out : List Ln} (h : IsLow ls out) : ∀ y ∈ out, y ∈ ls := by
  obtain ⟨ys, hp, hs, rfl⟩ := h
  intro y hy
  have := (fold_inv ys [] [] (by simp) hs trivial (by simp) (fun y hy => by simp at hy)).2.1 y (List.mem_reverse.1 hy)
  exact hp.mem_iff.1 (by simpa using this)
theorem low_dom {ls out : List Ln} (h : IsLow ls out) : Dom out ls := by
  obtain ⟨ys, hp, hs, rfl⟩ := h
  have := (fold_inv ys [] [] (by simp) hs trivial (by simp) (fun y hy => by simp at hy)).2.2
  intro y hy n d h0 hd
  obtain ⟨u, hu, hk⟩ := this y (by simpa using hp.mem_iff.2 hy) n d h0 hd
  exact ⟨u, List.mem_reverse.2 hu, hk⟩
theorem low_len {ls out : List Ln} (h : IsLow ls out) : out.length ≤ ls.length := by
  obtain ⟨ys, hp, hs, rfl⟩ := h
  have := fold_len ys []
  rw [List.length_reverse, ← hp.length_eq]
  simpa using this
theorem low_self {c out : List Ln} (h : IsLow c out) : out = c ↔ NormR c.reverse := by
  constructor
  · rintro rfl
    exact low_norm h
  · intro hn
    obtain ⟨ys, hp, hs, rfl⟩ := h
    have hc := sorted_of_norm hn
    rw [List.reverse_reverse] at hc
    have := sorted_one hp hs hc
    subst this
    have := fold_same ys [] (by simpa using hn)
    rw [this]
    simp
/-- May lines be a curve? -/
def okC (c : List Ln) : Bool := eachB c && (decide (c.length ≤ 32) && normRB c.reverse)
set_option maxHeartbeats 1000000 in
theorem check_any (v : Value) (c : List Ln) (w : World) (h : SAt Ln.cells 2 w v c) :
    Calls Try.prog 16 #[v] w fun e w' => e = .returned (.int .i64 (if okC c = true then 0 else 2)) ∧ Below w.heap.size w w' := by
  have he := each_any v c w h
  have hlm := h.len
  unfold maxLen at hlm
  have H := Lib.hid h
  obtain ⟨A, cc, rfl⟩ := h.slice
  clear h
  cases hq : eachB c with
  | false =>
    have hr : (if okC c = true then (0 : Int) else 2) = 2 := by rw [if_neg]; simp [okC, hq]
    rw [hr]
    rw [hq] at he
    clear hq
    go_enter Try.func16, Try.ntmps16
    go_wp2_with (go_at_call 31; refine he.mono ?_; rintro e w1 ⟨rfl, hb⟩)
    go_ret
    exact ⟨rfl, hb⟩
  | true =>
    rw [hq] at he
    by_cases hl : c.length ≤ 32
    · have hlz : (c.length : Int) ≤ 32 := by omega
      have hfit : ∀ l ∈ c, fits l := fun l hl => fits_of ((eachB_iff.1 hq).2 l hl)
      have HF := Lib.hid hfit
      generalize hR : (if okC c = true then (0 : Int) else 2) = R
      have HR := Lib.hid hR
      have HQ := Lib.hid hq
      clear hfit hR hq
      go_enter Try.func16, Try.ntmps16
      go_wp2_with (first | (go_at_call 31; refine he.mono ?_; rintro e w1 ⟨rfl, hb⟩) | (go_at_call 37; refine (lower_any _ c _ (H.out.below hb) HF.out (by omega)).mono ?_; rintro e w2 ⟨⟨v2, out, rfl, hlo, hsat⟩, hb2⟩; have heq := equal_ln v2 _ out c w2 hsat (H.out.below (bl_then hb hb2)); obtain ⟨A2, c2, rfl⟩ := hsat.slice; generalize hbq : decide (out = c) = bq at heq; have HBQ := Lib.hid hbq; have HLO := Lib.hid hlo; clear hbq hlo hsat) | (go_at_call 36; refine heq.mono ?_; rintro e w3 ⟨rfl, hb3⟩; cases bq))
      · go_ret
        refine ⟨?_, bl_then (bl_then hb hb2) hb3⟩
        have h1 : out ≠ c := of_decide_eq_false HBQ.out
        have h2 : normRB c.reverse = false := by
          rw [Bool.eq_false_iff]
          exact fun hh => h1 ((low_self HLO.out).2 ((normRB_iff _).1 hh))
        rw [← HR.out, if_neg (by simp [okC, h2])]
        rfl
      · go_ret
        refine ⟨?_, bl_then (bl_then hb hb2) hb3⟩
        have h1 : out = c := of_decide_eq_true HBQ.out
        have h2 : normRB c.reverse = true := (normRB_iff _).2 ((low_self HLO.out).1 h1)
        rw [← HR.out, if_pos (by simp [okC, h2, HQ.out, hl])]
        rfl
    · have hlz : (32 : Int) < (c.length : Int) := by omega
      have hr : (if okC c = true then (0 : Int) else 2) = 2 := by rw [if_neg]; simp [okC]; omega
      rw [hr]
      clear hq
      go_enter Try.func16, Try.ntmps16
      go_wp2_with (go_at_call 31; refine he.mono ?_; rintro e w1 ⟨rfl, hb⟩)
      go_ret
      exact ⟨rfl, hb⟩
end Go.Proofs.Ytmkjiflliejjjaa
