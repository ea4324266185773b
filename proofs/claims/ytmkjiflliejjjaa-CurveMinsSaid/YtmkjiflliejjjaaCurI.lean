/- Curve: the document's May, Same, At. -/
import Derived.Test.YtmkjiflliejjjaaCurH
namespace Go.Proofs.Ytmkjiflliejjjaa
open Go.RowKit Go.Shelf Go.Sort
set_option linter.unusedVariables false
set_option linter.unusedSimpArgs false
set_option maxHeartbeats 400000 in
theorem rmay_any (l : Ln) (w : World) :
    Calls Try.prog 34 #[.agg #[.int .i64 l.b, .int .i64 l.r]] w fun e w' => e = .returned (.bool (mayB l)) ∧ Below w.heap.size w w' := by
  unfold mayB inB
  go_enter Try.func34, Try.ntmps34
  by_cases h1 : 0 ≤ l.b
  · by_cases h2 : l.b ≤ 1000000000
    · by_cases h3 : 0 ≤ l.r
      · by_cases h4 : l.r ≤ 1000000000
        · go_wp2
          go_ret
          exact ⟨by simp [h1, h2, h3, h4], bl_alloc (Below.refl _ _) _⟩
        · go_wp2
          go_ret
          exact ⟨by simp [h1, h2, h3, h4], bl_alloc (Below.refl _ _) _⟩
      · go_wp2
        go_ret
        exact ⟨by simp [h1, h2, h3] <;> omega, bl_alloc (Below.refl _ _) _⟩
    · go_wp2
      go_ret
      exact ⟨by simp [h1, h2] <;> omega, bl_alloc (Below.refl _ _) _⟩
  · go_wp2
    go_ret
    exact ⟨by simp [h1] <;> omega, bl_alloc (Below.refl _ _) _⟩
set_option maxRecDepth 100000 in
set_option maxHeartbeats 400000 in
theorem rsame_any (v u : Value) (xs ys : List Ln) (w : World) (h : SAt Ln.cells 2 w v xs) (h2 : SAt Ln.cells 2 w u ys) :
    Calls Try.prog 21 #[v, u] w fun e w' => e = .returned (.bool (decide (xs = ys))) ∧ Below w.heap.size w w' := by
  have hne := neq_ln
  have hlm := h.len
  have hlm2 := h2.len
  unfold maxLen at hlm hlm2
  obtain ⟨A, c, rfl⟩ := h.slice
  obtain ⟨A2, c2, rfl⟩ := h2.slice
  have H := Lib.hid h
  have H2 := Lib.hid h2
  clear h h2
  by_cases hl : xs.length = ys.length
  · generalize hR : decide (xs = ys) = R
    have HR := Lib.hid hR
    have hlz : ((xs.length : Nat) : Int) = ((ys.length : Nat) : Int) := by omega
    clear hR
    go_enter Try.func21, Try.ntmps21
    go_wp2_with fail
    go_loopg [5] (xs.length + 1) (fun gg s5 wr => ∃ k : Nat, k ≤ xs.length ∧ xs.length - k ≤ gg ∧ s5 = .int .i64 k ∧ Aside (xs.take k = ys.take k) ∧ Aside (Below w.heap.size w wr))
    case atStart => exact ⟨0, by omega, by omega, rfl, rfl, Below.refl _ _⟩
    case round =>
      obtain ⟨k, hk, hgg, rfl, HN, HB⟩ := hrel
      by_cases hlt : k < xs.length
      · have hlt2 : k < ys.length := by omega
        have hltz : (k : Int) < (ys.length : Int) := by omega
        have hltz2 : (k : Int) < (xs.length : Int) := by omega
        have hgk : xs[k]? = some xs[k] := List.getElem?_eq_getElem hlt
        have hgy : ys[k]? = some ys[k] := List.getElem?_eq_getElem hlt2
        generalize xs[k] = l at hgk
        generalize ys[k] = m at hgy
        rcases H.out.below HB.out with ⟨h1, h2⟩ | ⟨b, o, c', h1, _, _, hrow⟩
        · subst h2; simp at hlt
        · rcases H2.out.below HB.out with ⟨h3, h4⟩ | ⟨b2, o2, c2', h3, _, _, hrow2⟩
          · subst h4; simp at hlt2
          · simp only [Value.slice.injEq] at h1 h3
            obtain ⟨rfl, -, rfl⟩ := h1
            obtain ⟨rfl, -, rfl⟩ := h3
            obtain ⟨c0, c1⟩ := LnAt.ofRow hrow hgk
            obtain ⟨d0, d1⟩ := LnAt.ofRow hrow2 hgy
            have HK := Lib.hid hgk
            have HY := Lib.hid hgy
            have hn := hne l m
            unfold Ln.val at hn
            clear hrow hrow2 hgk hgy hne
            by_cases hq : l = m
            · have hqd : decide (l = m) = true := by simp [hq]
              rw [hqd] at hn
              have HQ := Lib.hid hq
              clear hq hqd
              go_wp2_with fail
              go_quiet (fail)
              go_wp2_with fail
              go_roundg (xs.length - (k + 1))
              case measure => omega
              case rel => exact ⟨k + 1, by omega, by omega, by go_num, take_step HN.out HK.out (HQ.out ▸ HY.out), bl_drewN HB.out _⟩
            · have hqd : decide (l = m) = false := by simp [hq]
              rw [hqd] at hn
              have HQ := Lib.hid hq
              clear hq hqd
              go_wp2_with fail
              go_quiet (fail)
              go_wp2_with fail
              go_ret
              exact ⟨by rw [← HR.out, decide_eq_false (fun h => HQ.out (by have h1 := HK.out; rw [h, HY.out] at h1; exact (Option.some.inj h1).symm))]; rfl, bl_drewN HB.out _⟩
      · obtain rfl : k = xs.length := by omega
        have hltz : ¬ ((xs.length : Nat) : Int) < ((ys.length : Nat) : Int) := by omega
        go_wp2_with fail
        go_ret
        exact ⟨by rw [← HR.out, decide_eq_true (by have h1 := HN.out; rw [List.take_length, hl, List.take_length] at h1; exact h1)]; rfl, HB.out⟩
  · have hd : decide (xs = ys) = false := decide_eq_false (fun h => hl (by rw [h]))
    rw [hd]
    have hlz : ¬ ((xs.length : Nat) : Int) = ((ys.length : Nat) : Int) := by omega
    have hlb : (((xs.length : Nat) : Int) == ((ys.length : Nat) : Int)) = false := beq_eq_false_iff_ne.2 hlz
    go_enter Try.func21, Try.ntmps21
    go_wp2_with fail
    go_ret
    exact ⟨rfl, Below.refl _ _⟩
/-- How high some lines are, at n by d ticks, d times. -/
def htC : List Ln → Int → Int → Int
  | [], _, _ => 0
  | x :: c, n, d => c.foldl (fun m l => if ht l n d < m then ht l n d else m) (ht x n d)
/-- Numbers whose sums fit. -/
def sumFits (l : Ln) (n d : Int) : Prop := (-4000000000000000000 ≤ l.b * d ∧ l.b * d ≤ 4000000000000000000) ∧ -4000000000000000000 ≤ l.r * n ∧ l.r * n ≤ 4000000000000000000
set_option maxRecDepth 100000 in
set_option maxHeartbeats 1000000 in
theorem rat_any (v : Value) (c : List Ln) (n d : Int) (w : World) (h : SAt Ln.cells 2 w v c) (hne : c ≠ []) (hf : ∀ l ∈ c, sumFits l n d) :
    Calls Try.prog 18 #[v, .int .i64 n, .int .i64 d] w fun e w' => e = .returned (.int .i64 (htC c n d)) ∧ Below w.heap.size w w' := by
  have hlm := h.len
  unfold maxLen at hlm
  match c, h, hne, hf, hlm with
  | x :: r, h, _, hf, hlm =>
    have HF := Lib.hid hf
    have H := Lib.hid h
    rcases h with ⟨-, hh⟩ | ⟨b, o, cc, rfl, hcc, hcm, hrow⟩
    · cases hh
    · obtain ⟨x0, x1⟩ := LnAt.ofRow hrow (show (x :: r)[0]? = some x from rfl)
      simp only [Nat.zero_mul, Nat.add_zero] at x0 x1
      obtain ⟨⟨q1, q2⟩, q3, q4⟩ := hf x (by simp)
      have p1 : IntKind.i64.wrap (x.b * d) = x.b * d := by rw [IntWalk.i64_in _ (by omega)]
      have p2 : IntKind.i64.wrap (x.r * n) = x.r * n := by rw [IntWalk.i64_in _ (by omega)]
      have p3 : IntKind.i64.wrap (x.b * d + x.r * n) = x.b * d + x.r * n := by rw [IntWalk.i64_in _ (by omega)]
      have hl0 : 0 < (x :: r).length := by simp
      have hl1 : (0 : Int) < ((x :: r).length : Int) := by simp only [List.length_cons]; omega
      have hN : (x :: r).length = r.length + 1 := by simp
      have HN := Lib.hid hN
      clear hrow hf hN
      unfold htC
      generalize (x :: r).length = N at *
      go_enter Try.func18, Try.ntmps18
      go_wp2_with fail
      go_quiet (fail)
      go_wp2_with fail
      go_loopg [7, 8, 9] (r.length + 1) (fun gg s7 s8 s9 wr => ∃ k : Nat, k ≤ r.length ∧ r.length - k ≤ gg ∧ s8 = .int .i64 ((k + 1 : Nat) : Int) ∧ s7 = .int .i64 ((r.take k).foldl (fun m l => if ht l n d < m then ht l n d else m) (ht x n d)) ∧ Aside (Below w.heap.size w wr))
      case atStart => exact ⟨0, by omega, by omega, rfl, rfl, by repeat (first | exact Below.refl _ _ | refine bl_drewN ?_ _)⟩
      case round =>
        obtain ⟨k, hk, hgg, rfl, rfl, HB⟩ := hrel
        by_cases hlt : k < r.length
        · have hltz : ((k + 1 : Nat) : Int) < (N : Int) := by have := HN.out; omega
          have hltn : k + 1 < N := by have := HN.out; omega
          have hgk : r[k]? = some r[k] := List.getElem?_eq_getElem hlt
          generalize r[k] = l at hgk
          have hgk2 : (x :: r)[k + 1]? = some l := by simpa using hgk
          rcases H.out.below HB.out with ⟨e1, e2⟩ | ⟨b2, o2, c2, e1, _, _, hrow2⟩
          · cases e1
          · simp only [Value.slice.injEq] at e1
            obtain ⟨e3, -, -⟩ := e1
            cases e3
            obtain ⟨c0, c1⟩ := LnAt.ofRow hrow2 hgk2
            obtain ⟨⟨r1, r2⟩, r3, r4⟩ := HF.out l (List.mem_cons_of_mem _ (List.mem_of_getElem? hgk))
            have p4 : IntKind.i64.wrap (l.b * d) = l.b * d := by rw [IntWalk.i64_in _ (by omega)]
            have p5 : IntKind.i64.wrap (l.r * n) = l.r * n := by rw [IntWalk.i64_in _ (by omega)]
            have p6 : IntKind.i64.wrap (l.b * d + l.r * n) = l.b * d + l.r * n := by rw [IntWalk.i64_in _ (by omega)]
            have hfs : (r.take (k + 1)).foldl (fun m l => if ht l n d < m then ht l n d else m) (ht x n d) = if l.b * d + l.r * n < (r.take k).foldl (fun m l => if ht l n d < m then ht l n d else m) (ht x n d) then l.b * d + l.r * n else (r.take k).foldl (fun m l => if ht l n d < m then ht l n d else m) (ht x n d) := by
              rw [← take_snoc' hgk, List.foldl_append]
              rfl
            generalize (r.take k).foldl (fun m l => if ht l n d < m then ht l n d else m) (ht x n d) = m at *
            have HFS := Lib.hid hfs
            clear hrow2 hgk hgk2 hfs
            by_cases hm : l.b * d + l.r * n < m
            · go_wp2_with fail
              go_quiet (fail)
              go_wp2_with fail
              go_roundg (r.length - (k + 1))
              case measure => omega
              case rel => exact ⟨k + 1, by omega, by omega, by go_num, by rw [HFS.out, if_pos hm], bl_drewN HB.out _⟩
            · go_wp2_with fail
              go_quiet (fail)
              go_wp2_with fail
              go_roundg (r.length - (k + 1))
              case measure => omega
              case rel => exact ⟨k + 1, by omega, by omega, by go_num, by rw [HFS.out, if_neg (by omega)], bl_drewN HB.out _⟩
        · obtain rfl : k = r.length := by omega
          have hltz : ¬ ((r.length + 1 : Nat) : Int) < (N : Int) := by have := HN.out; omega
          rw [List.take_length]
          generalize hm : r.foldl (fun m l => if ht l n d < m then ht l n d else m) (ht x n d) = m
          have HMM := Lib.hid hm
          clear hm
          go_wp2_with fail
          go_ret
          exact ⟨by rw [HMM.out]; rfl, HB.out⟩
end Go.Proofs.Ytmkjiflliejjjaa
