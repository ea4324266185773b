/- Curve: Later. -/
import Derived.Test.YtmkjiflliejjjaaCurK
import Derived.Test.YtmkjiflliejjjaaRnd
namespace Go.Proofs.Ytmkjiflliejjjaa
open Go.RowKit Go.Shelf Go.Sort
set_option linter.unusedVariables false
set_option linter.unusedSimpArgs false
attribute [local go_sem] Oper.semAt_some
/-- The last line that is lowest then. -/
def firstTo (c : List Ln) (t : Int) : Nat → Nat
  | 0 => 0
  | k + 1 => if atI (c.getD k Ln0) t ≤ atI (c.getD (firstTo c t k) Ln0) t then k else firstTo c t k
theorem firstTo_le (c : List Ln) (t : Int) : ∀ k, firstTo c t k ≤ k - 1 ∨ firstTo c t k = 0
  | 0 => Or.inr rfl
  | k + 1 => by
    have := firstTo_le c t k
    unfold firstTo
    split <;> omega
theorem firstTo_lt (c : List Ln) (t : Int) (k : Nat) (h : k ≤ c.length) (h0 : 0 < c.length) : firstTo c t k < c.length := by
  have := firstTo_le c t k
  omega
def laterL (c : List Ln) (t : Int) : List Ln := (c.drop (firstTo c t c.length)).map fun l => ⟨atI l t, l.r⟩
set_option maxHeartbeats 1000000 in
theorem later_no (v : Value) (c : List Ln) (t : Int) (w : World) (h : SAt Ln.cells 2 w v c) (hq : okC c = false ∨ inB t 2147483647 = false) :
    Calls Try.prog 19 #[v, .int .i64 t] w fun e w' => e = .returned (.tuple #[.slice none 0 0, .int .i64 2]) ∧ Below w.heap.size w w' := by
  have hc := check_any v c _ (h.below (bl_alloc (Below.refl _ _) (.cells #[.int .i64 t] 2)))
  have hw := fun w => within_any t 2147483647 w
  obtain ⟨A, cc, rfl⟩ := h.slice
  clear h
  cases h1 : okC c with
  | false =>
    rw [h1] at hc
    simp only [Bool.false_eq_true, if_false] at hc
    clear h1 hq
    refine callsIn_wide (n := 8) |>.1 ?_
    refine callsIn_of_wp_marks Try.func19 rfl trivial ?_ rfl
    simp only [Try.ntmps19, List.size_toArray, List.length_cons, List.length_nil, Nat.reduceAdd, Nat.reduceSub, Array.replicate_succ, Array.replicate_zero, List.push_toArray, List.append_toArray, List.nil_append, List.cons_append]
    refine wpIn_wide.2 ?_
    go_wp2_with (first | (go_at_call 16; refine hc.mono ?_; rintro e w1 ⟨rfl, hb⟩) | (go_at_call 38; refine (hw _).mono ?_; rintro e w' ⟨rfl, rfl⟩))
    exact ⟨_, results_tmp2 rfl _ _ _, rfl, bl_then (bl_alloc (Below.refl _ _) _) hb⟩
  | true =>
    have h2 : inB t 2147483647 = false := by rcases hq with hq | hq; · rw [h1] at hq; cases hq
                                             · exact hq
    rw [h1] at hc
    simp only [if_true] at hc
    simp only [h2] at hw
    clear h1 hq h2
    refine callsIn_wide (n := 8) |>.1 ?_
    refine callsIn_of_wp_marks Try.func19 rfl trivial ?_ rfl
    simp only [Try.ntmps19, List.size_toArray, List.length_cons, List.length_nil, Nat.reduceAdd, Nat.reduceSub, Array.replicate_succ, Array.replicate_zero, List.push_toArray, List.append_toArray, List.nil_append, List.cons_append]
    refine wpIn_wide.2 ?_
    go_wp2_with (first | (go_at_call 16; refine hc.mono ?_; rintro e w1 ⟨rfl, hb⟩; have ht := bl_cell hb (b := w.heap.size) (o := 0) (v := .int .i64 t) (by go_simp)) | (go_at_call 38; refine (hw _).mono ?_; rintro e w' ⟨rfl, rfl⟩))
    exact ⟨_, results_tmp2 rfl _ _ _, rfl, bl_then (bl_alloc (Below.refl _ _) _) hb⟩
/-- How high any line is, at any tick: cut to 64 bits. -/
def atW (l : Ln) (t : Int) : Int := wrap64 (l.b + wrap64 (l.r * t))
theorem atW_eq {l : Ln} {t : Int} (h : mayB l = true) (h0 : 0 ≤ t) (ht : t ≤ 2147483647) : atW l t = atI l t := by
  obtain ⟨⟨f1, f2⟩, f3, f4⟩ := at_fits h h0 ht
  have k1 : wrap64 (l.r * t) = l.r * t := by unfold wrap64; omega
  unfold atI at *
  unfold atW
  rw [k1]
  unfold wrap64
  omega
set_option maxHeartbeats 400000 in
theorem atW_any (l : Ln) (t : Int) (w : World) :
    Calls Try.prog 39 #[.agg #[.int .i64 l.b, .int .i64 l.r], .int .i64 t] w fun e w' => e = .returned (.int .i64 (atW l t)) ∧ Below w.heap.size w w' := by
  unfold atW
  go_enter Try.func39, Try.ntmps39
  go_wp2
  go_ret
  exact ⟨rfl, bl_alloc (Below.refl _ _) _⟩
def latW (t : Int) (l : Ln) : Ln := ⟨atW l t, l.r⟩
theorem enc_lines1 : ∀ args w, (callFunc 53 args).run Try.prog w = .ok (.enter 53 args) w := enters_of Try.func53 (by kernel_rfl) rfl
theorem lines_stops (n : Nat) (hn : 1 ≤ n) (p N bs : Nat) (V : Value) (ps : List Cv) (w : World) (hN : N ≤ w.heap.size) (hbs : w.cell? ⟨bs, 0, none⟩ = some V) (hS : ∀ X, KeepX p N w X → CvsAt X V ps) :
    SeqStopsK Fence.wide n Try.prog 53 #[.pointer (some ⟨bs, 0, none⟩)] (fun x : Ln => #[.agg (Ln.cells x).toArray]) (KeepX p N) (fun ys => ys = allLines ps) (fun pre => pre <+: allLines ps) (allLines ps).length w := fun l J Jx W hW hJ hJx hY h0 =>
  lines1_any n hn l bs V ps (KeepX p N) (fun h k => h.trans k) (KeepX.refl p N) (KeepX.alloc p N) J Jx W hJ hY (bl_cell hW hbs) (fun X hX => hS X ((KeepX.below hW hN).trans hX)) h0
theorem cv_one {W : World} {v V : Value} {ls : List Ln} {b : Nat} (hV : V = .slice (some ⟨b, 0, none⟩) 1 1) (hc : W.cell? ⟨b, 0, none⟩ = some v) (h : SAt Ln.cells 2 W v ls) : CvsAt W V [(v, ls)] := by
  subst hV
  refine ⟨Or.inr ⟨b, 0, 1, rfl, by simp, by unfold maxLen; omega, ?_⟩, by simpa using h⟩
  intro j x hj i u hu
  cases j with
  | succ j => simp at hj
  | zero =>
    simp at hj
    subst hj
    cases i with
    | succ i => simp [Cv.cells] at hu
    | zero =>
      simp [Cv.cells] at hu
      subst hu
      simpa using hc
theorem all_one (v : Value) (ls : List Ln) : allLines [(v, ls)] = ls := by simp [allLines]
/-- What Later tells. -/
def LaterPost (c : List Ln) (t : Int) (w : World) (e : Ending) (w' : World) : Prop :=
  ((eachB (laterL c t) = true ∧ ∃ v', e = .returned (.tuple #[v', .int .i64 0]) ∧ SAt Ln.cells 2 w' v' (laterL c t)) ∨ (eachB (laterL c t) = false ∧ e = .returned (.tuple #[.slice none 0 0, .int .i64 3]))) ∧ Below w.heap.size w w'
set_option maxRecDepth 100000 in
set_option maxHeartbeats 20000000 in
theorem later_yes (v : Value) (c : List Ln) (t : Int) (w : World) (h : SAt Ln.cells 2 w v c) (hq : okC c = true) (hi : inB t 2147483647 = true) :
    Calls Try.prog 19 #[v, .int .i64 t] w (LaterPost c t w) := by
  have hc := check_any v c _ (h.below (bl_alloc (Below.refl _ _) (.cells #[.int .i64 t] 2)))
  have hw := fun w => within_any t 2147483647 w
  rw [if_pos hq] at hc
  simp only [hi] at hw
  obtain ⟨h1, h2, h3, h4⟩ := okC_may hq
  have hti : 0 ≤ t ∧ t ≤ 2147483647 := by simpa [inB] using hi
  obtain ⟨ht0, ht1⟩ := hti
  obtain ⟨A, cc, rfl⟩ := h.slice
  have hl0 : 0 < c.length := List.length_pos_iff.2 h1
  have H := Lib.hid h
  have HM := Lib.hid h2
  clear h h2 h4 hq hi
  refine callsIn_wide (n := 8) |>.1 ?_
  refine callsIn_of_wp_marks Try.func19 rfl trivial ?_ rfl
  simp only [Try.ntmps19, List.size_toArray, List.length_cons, List.length_nil, Nat.reduceAdd, Nat.reduceSub, Array.replicate_succ, Array.replicate_zero, List.push_toArray, List.append_toArray, List.nil_append, List.cons_append]
  refine wpIn_wide.2 ?_
  go_wp2_with (first | (go_at_call 16; refine hc.mono ?_; rintro e w1 ⟨rfl, hb⟩; have ht := bl_cell hb (b := w.heap.size) (o := 0) (v := .int .i64 t) (by go_simp); have hz1 := hb.size; simp only [World.size_alloc] at hz1; have HB1 := Lib.hid (bl_then (bl_alloc (Below.refl _ _) _) hb); have HT : Hid (∀ X, Below w1.heap.size w1 X → X.cell? ⟨w.heap.size, 0, none⟩ = some (.int .i64 t)) := Lib.hid (fun X hX => bl_cell hX ht); clear hb hc) | (go_at_call 38; refine (hw _).mono ?_; rintro e w' ⟨rfl, rfl⟩))
  clear hw ht
  go_loopg [6, 7, 8, 21] (c.length + 1) (fun gg s6 s7 s8 s21 wr => ∃ k : Nat, k ≤ c.length ∧ c.length - k ≤ gg ∧ s21 = .int .i64 k ∧ s6 = .int .i64 (firstTo c t k : Nat) ∧ Aside (Below w1.heap.size w1 wr))
  case atStart => exact ⟨0, by omega, by omega, rfl, rfl, Below.refl _ _⟩
  case round =>
    obtain ⟨k, hk, hgg, rfl, rfl, HB⟩ := hrel
    have hft := firstTo_lt c t k hk hl0
    by_cases hlt : k < c.length
    · have hltz : (k : Int) < (c.length : Int) := by omega
      have hgx : c[k]? = some c[k] := List.getElem?_eq_getElem hlt
      have hgy : c[firstTo c t k]? = some c[firstTo c t k] := List.getElem?_eq_getElem hft
      have hst : firstTo c t (k + 1) = if atI c[k] t ≤ atI c[firstTo c t k] t then k else firstTo c t k := by
        rw [firstTo]
        simp [List.getD, hlt, hft]
      generalize c[k] = x at hgx hst
      generalize c[firstTo c t k] = y at hgy hst
      generalize firstTo c t k = f at hgy hst hft ⊢
      have hfz : (f : Int) < (c.length : Int) := by omega
      rcases H.out.below (bl_then HB1.out HB.out) with ⟨e1, e2⟩ | ⟨b, o, c2, e1, _, _, hrow⟩
      · subst e2; simp at hlt
      · simp only [Value.slice.injEq] at e1
        obtain ⟨rfl, -, rfl⟩ := e1
        obtain ⟨x0, x1⟩ := LnAt.ofRow hrow hgx
        obtain ⟨y0, y1⟩ := LnAt.ofRow hrow hgy
        have ht := HT.out wr HB.out
        have hax := fun w => at1_any x t w (HM.out x (List.mem_of_getElem? hgx)) ht0 ht1
        have hay := fun w => at1_any y t w (HM.out y (List.mem_of_getElem? hgy)) ht0 ht1
        have HST := Lib.hid hst
        have hwz : w.heap.size < wr.heap.size := by have := HB.out.size; omega
        have hbz : b < wr.heap.size := World.block_lt_of_cell? wr ⟨b, _, none⟩ x0
        have g0 : (wr.alloc (.cells #[.int .i64 x.b, .int .i64 x.r] 39)).cell? ⟨wr.heap.size, 0, none⟩ = some (.int .i64 x.b) := by go_simp
        have g1 : (wr.alloc (.cells #[.int .i64 x.b, .int .i64 x.r] 39)).cell? ⟨wr.heap.size, 1, none⟩ = some (.int .i64 x.r) := by go_simp
        have g2 := bl_cell (bl_alloc (Below.refl wr.heap.size wr) (.cells #[.int .i64 x.b, .int .i64 x.r] 39)) y0
        have g3 := bl_cell (bl_alloc (Below.refl wr.heap.size wr) (.cells #[.int .i64 x.b, .int .i64 x.r] 39)) y1
        have g4 := bl_cell (bl_alloc (Below.refl wr.heap.size wr) (.cells #[.int .i64 x.b, .int .i64 x.r] 39)) ht
        have hB2 : Below w1.heap.size w1 (wr.alloc (.cells #[.int .i64 x.b, .int .i64 x.r] 39)) := bl_alloc HB.out _
        clear hrow hgx hgy hst y0 y1
        go_upto_region 7 with fail
        generalize (wr.alloc (.cells #[.int .i64 x.b, .int .i64 x.r] 39)) = W2 at g0 g1 g2 g3 g4 hB2 ⊢
        have HSX : Hid (∀ X, Below W2.heap.size W2 X → (fun w' => (w'.cell? ⟨wr.heap.size, 0, none⟩ = some (.int .i64 x.b) ∧ w'.cell? ⟨wr.heap.size, 1, none⟩ = some (.int .i64 x.r)) ∧ (w'.cell? ⟨b, o + f * 2, none⟩ = some (.int .i64 y.b) ∧ w'.cell? ⟨b, o + f * 2 + 1, none⟩ = some (.int .i64 y.r)) ∧ w'.cell? ⟨w.heap.size, 0, none⟩ = some (.int .i64 t)) X) := Lib.hid fun X hX => ⟨⟨bl_cell hX g0, bl_cell hX g1⟩, ⟨bl_cell hX g2, bl_cell hX g3⟩, bl_cell hX g4⟩
        have HB2 := Lib.hid hB2
        clear hB2
        by_cases hxy : atI x t ≤ atI y t
        · have hst2 := HST.out
          rw [if_pos hxy] at hst2
          have HST2 := Lib.hid hst2
          clear hst2
          generalize atI x t = ax at *
          generalize atI y t = ay at *
          first
          | go_region_held3 (fun w' => (w'.cell? ⟨wr.heap.size, 0, none⟩ = some (.int .i64 x.b) ∧ w'.cell? ⟨wr.heap.size, 1, none⟩ = some (.int .i64 x.r)) ∧ (w'.cell? ⟨b, o + f * 2, none⟩ = some (.int .i64 y.b) ∧ w'.cell? ⟨b, o + f * 2 + 1, none⟩ = some (.int .i64 y.r)) ∧ w'.cell? ⟨w.heap.size, 0, none⟩ = some (.int .i64 t))
              (exact HSX.out _ (by repeat (first | exact Below.refl _ _ | refine bl_drew ?_ | refine bl_drewN ?_ _ | refine bl_alloc ?_ _ | (refine bl_then ?_ hby; clear hby) | (refine bl_then ?_ hbx; clear hbx))))
              (first
                | (go_at_call 39; (with_reducible refine (hax _).mono ?_); rintro e w' ⟨rfl, hbx⟩)
                | (go_at_call 39; (with_reducible refine (hay _).mono ?_); rintro e w' ⟨rfl, hby⟩))
          | fail "held3"
          all_goals
            have hbF : Below W2.heap.size W2 w' := by repeat (first | exact Below.refl _ _ | refine bl_drew ?_ | refine bl_drewN ?_ _ | (refine bl_then ?_ hby; clear hby) | (refine bl_then ?_ hbx; clear hbx))
            have HBF := Lib.hid hbF
            clear hbF
            go_wp2_with fail
            go_roundg (c.length - (k + 1))
            case measure => omega
            case rel => exact ⟨k + 1, by omega, by omega, by go_num, by rw [HST2.out], bl_then HB2.out HBF.out⟩
        · have hst2 := HST.out
          rw [if_neg hxy] at hst2
          have HST2 := Lib.hid hst2
          clear hst2
          generalize atI x t = ax at *
          generalize atI y t = ay at *
          first
          | go_region_held3 (fun w' => (w'.cell? ⟨wr.heap.size, 0, none⟩ = some (.int .i64 x.b) ∧ w'.cell? ⟨wr.heap.size, 1, none⟩ = some (.int .i64 x.r)) ∧ (w'.cell? ⟨b, o + f * 2, none⟩ = some (.int .i64 y.b) ∧ w'.cell? ⟨b, o + f * 2 + 1, none⟩ = some (.int .i64 y.r)) ∧ w'.cell? ⟨w.heap.size, 0, none⟩ = some (.int .i64 t))
              (exact HSX.out _ (by repeat (first | exact Below.refl _ _ | refine bl_drew ?_ | refine bl_drewN ?_ _ | refine bl_alloc ?_ _ | (refine bl_then ?_ hby; clear hby) | (refine bl_then ?_ hbx; clear hbx))))
              (first
                | (go_at_call 39; (with_reducible refine (hax _).mono ?_); rintro e w' ⟨rfl, hbx⟩)
                | (go_at_call 39; (with_reducible refine (hay _).mono ?_); rintro e w' ⟨rfl, hby⟩))
          | fail "held3"
          all_goals
            have hbF : Below W2.heap.size W2 w' := by repeat (first | exact Below.refl _ _ | refine bl_drew ?_ | refine bl_drewN ?_ _ | (refine bl_then ?_ hby; clear hby) | (refine bl_then ?_ hbx; clear hbx))
            have HBF := Lib.hid hbF
            clear hbF
            go_wp2_with fail
            go_roundg (c.length - (k + 1))
            case measure => omega
            case rel => exact ⟨k + 1, by omega, by omega, by go_num, by rw [HST2.out], bl_then HB2.out HBF.out⟩
    · obtain rfl : k = c.length := by omega
      have hltz : ¬ ((c.length : Nat) : Int) < ((c.length : Nat) : Int) := by omega
      generalize hff : firstTo c t c.length = f at *
      have HFF := Lib.hid hff
      clear hff
      have hfz : (f : Int) < (c.length : Int) := by omega
      obtain ⟨v', hrun, hsat⟩ := run_slice_from elCv (H.out.below (bl_then HB1.out HB.out)) f (by omega)
      obtain ⟨A5, c5, rfl⟩ := hsat.slice
      have HS := Lib.hid hsat
      clear hsat
      go_wp2_with (go_at_call 40; refine (lines_any _ _ _ _).mono ?_; rintro e w3 ⟨rfl, hw3⟩; have HW3 := Lib.hid hw3; clear hw3)
      have hw3 := HW3.out
      have hz3 : w3.heap.size = wr.heap.size + 3 := by rw [hw3]; simp
      have hb3 : Below wr.heap.size wr w3 := by rw [hw3]; repeat (first | exact Below.refl _ _ | refine bl_alloc ?_ _)
      have hx3 : Boxed w3 wr.heap.size 24 (.slice none 0 0) := by
        rw [hw3]
        exact ((Boxed.new wr 24 (.slice none 0 0)).alloc _).alloc _
      have hs3 : w3.cell? ⟨wr.heap.size + 1, 0, none⟩ = some (.slice A5 (c.drop f).length c5) := by
        rw [hw3]; go_simp
      have hl3 : w3.cell? ⟨wr.heap.size + 2, 0, none⟩ = some (.slice (some ⟨wr.heap.size + 1, 0, none⟩) 1 1) := by
        rw [hw3]; go_simp
      have hcv : ∀ X, KeepX wr.heap.size (wr.heap.size + 3) w3 X → CvsAt X (.slice (some ⟨wr.heap.size + 1, 0, none⟩) 1 1) [(.slice A5 (c.drop f).length c5, c.drop f)] := fun X hX =>
        cv_one rfl (hX.cell (by omega) (by omega) hs3) (HS.out.kept (hX.kept hb3 (by omega) (Nat.le_refl _)))
      have hst := lines_stops 7 (by omega) wr.heap.size (wr.heap.size + 3) (wr.heap.size + 2) _ _ w3 (by omega) hl3 hcv
      rw [all_one] at hst
      have hlen : (c.drop f).length ≤ 32 := by simp; omega
      have hT3 : ∀ X, Below wr.heap.size wr X → X.cell? ⟨w.heap.size, 0, none⟩ = some (.int .i64 t) := fun X hX => HT.out X (bl_then HB.out hX)
      have hzw : w.heap.size < wr.heap.size := by have := HB.out.size; omega
      clear hcv hs3 hl3 hw3 hrun
      refine (wpIn_wide (n := 8)).1 ?_
      refine range_box (p := 43) (q := 10) 39 (by omega) rfl enc_lines1 hst (fun h k => h.trans k) (KeepX.put (p := wr.heap.size) (N := wr.heap.size + 3) (w := w3) (by omega)) (KeepX.alloc _ _)
        (fun pre W => (∃ v, Boxed W wr.heap.size 24 v ∧ W.ownsRow (wr.heap.size + 3) 39 2 v pre.length ((pre.map (latW t)).flatMap Ln.cells) ∧ True) ∧ Below wr.heap.size wr W ∧ w3.heap.size ≤ W.heap.size) ?hI ?h0 ?hassign ?hbody ?hsz ?hdone
      case hI => exact OwnFrom.and (Own.from (holdsRow_own (wr.heap.size + 3) wr.heap.size 24 39 2 (fun pre : List Ln => pre.length) (fun pre => (pre.map (latW t)).flatMap Ln.cells) (fun _ _ => True)) _) (OwnFrom.and (ownFrom_below (n₀ := wr.heap.size) (Nat.le_refl _) (by rw [hz3]; omega)) (ownFrom_size _ _))
      case h0 => exact ⟨⟨_, hx3, World.ownsRow_nil _ _ _ _, trivial⟩, hb3, Nat.le_refl _⟩
      case hsz => rintro pre W ⟨-, -, hB⟩; exact hB
      case hassign =>
        intro l x W K hK
        simp only [Ln.cells] at hK ⊢
        gi_wp2
        exact hK
      case hbody =>
        rintro l pre x Bx W ⟨r, hr⟩ hBx hbx ⟨⟨v, hv, hrow, -⟩, hB, hZ⟩ hlt
        simp only [List.setIfInBounds_toArray, List.set_cons_zero, List.set_cons_succ, Ln.cells] at hbx ⊢
        have c0 := hv.cell
        have hWt := hT3 W hB
        have x0 : W.cell? ⟨Bx, 0, none⟩ = some (.int .i64 x.b) := by simp [World.cell?, hbx]
        have x1 : W.cell? ⟨Bx, 1, none⟩ = some (.int .i64 x.r) := by simp [World.cell?, hbx]
        have HSX : Hid (∀ X, Below W.heap.size W X → (fun W' : World => W'.cell? ⟨wr.heap.size, 0, none⟩ = some v ∧ (W'.cell? ⟨Bx, 0, none⟩ = some (.int .i64 x.b) ∧ W'.cell? ⟨Bx, 1, none⟩ = some (.int .i64 x.r)) ∧ W'.cell? ⟨w.heap.size, 0, none⟩ = some (.int .i64 t)) X) := Lib.hid fun X hX => ⟨bl_cell hX c0, ⟨bl_cell hX x0, bl_cell hX x1⟩, bl_cell hX hWt⟩
        clear c0 hWt x0 x1
        refine wpIn_block ?_
        refine wpIn_region_till 8 (S := (fun W' : World => W'.cell? ⟨wr.heap.size, 0, none⟩ = some v ∧ (W'.cell? ⟨Bx, 0, none⟩ = some (.int .i64 x.b) ∧ W'.cell? ⟨Bx, 1, none⟩ = some (.int .i64 x.r)) ∧ W'.cell? ⟨w.heap.size, 0, none⟩ = some (.int .i64 t))) (by kernel_rfl) (noDefer (by kernel_rfl)) (HSX.out _ (bl_drew (Below.refl _ _))) (fun hHeld => ?_)
        refine till_yes (i := 0) (v := ?_) rfl (by kernel_rfl) (by kernel_rfl) (by kernel_rfl) (by kernel_rfl) (by kernel_rfl) (fun _ _ _ h => h) (by kernel_rfl) (by assumption) ?_ ?_
        rotate_left 1
        · (intro w hSw; (try dsimp only at hSw); go_simp; try with_reducible rfl)
        try simp only [Act.put, List.setIfInBounds_toArray, List.set_cons_zero, List.set_cons_succ]

        refine till_yes (i := 1) (v := ?_) rfl (by kernel_rfl) (by kernel_rfl) (by kernel_rfl) (by kernel_rfl) (by kernel_rfl) (fun _ _ _ h => h) (by kernel_rfl) (by assumption) ?_ ?_
        rotate_left 1
        · (intro w hSw; (try dsimp only at hSw); go_simp; try with_reducible rfl)
        try simp only [Act.put, List.setIfInBounds_toArray, List.set_cons_zero, List.set_cons_succ]

        refine till_yes (i := 2) (v := ?_) rfl (by kernel_rfl) (by kernel_rfl) (by kernel_rfl) (by kernel_rfl) (by kernel_rfl) (fun _ _ _ h => h) (by kernel_rfl) (by assumption) ?_ ?_
        rotate_left 1
        · (intro w hSw; (try dsimp only at hSw); go_simp; try with_reducible rfl)
        try simp only [Act.put, List.setIfInBounds_toArray, List.set_cons_zero, List.set_cons_succ]

        refine till_yes (i := 4) (v := ?_) rfl (by kernel_rfl) (by kernel_rfl) (by kernel_rfl) (by kernel_rfl) (by kernel_rfl) (fun _ _ _ h => h) (by kernel_rfl) (by assumption) ?_ ?_
        rotate_left 1
        · (intro w hSw; (try dsimp only at hSw); go_simp; try with_reducible rfl)
        try simp only [Act.put, List.setIfInBounds_toArray, List.set_cons_zero, List.set_cons_succ]

        refine till_yes (i := 5) (v := ?_) rfl (by kernel_rfl) (by kernel_rfl) (by kernel_rfl) (by kernel_rfl) (by kernel_rfl) (fun _ _ _ h => h) (by kernel_rfl) (by assumption) ?_ ?_
        rotate_left 1
        · (intro w hSw; (try dsimp only at hSw); go_simp; try with_reducible rfl)
        try simp only [Act.put, List.setIfInBounds_toArray, List.set_cons_zero, List.set_cons_succ]

        refine till_one (i := 3) rfl (by kernel_rfl) (fun K' hK => ?_)
        go_simp
        refine (atW_any x t _).mono ?_
        rintro e w4 ⟨rfl, hb4⟩
        go_simp
        have hb4' : Below W.heap.size W w4 := bl_then (bl_drew (Below.refl _ _)) hb4
        refine hK.out _ _ (HSX.out _ hb4') (fun hHeld2 => ?_)
        clear hK K' hHeld hb4
        try simp only [Act.put, List.setIfInBounds_toArray, List.set_cons_zero, List.set_cons_succ]
        refine till_yes (i := 6) (v := ?_) rfl (by kernel_rfl) (by kernel_rfl) (by kernel_rfl) (by kernel_rfl) (by kernel_rfl) (fun _ _ _ h => h) (by kernel_rfl) (by assumption) ?_ ?_
        rotate_left 1
        · (intro w hSw; (try dsimp only at hSw); go_simp; try with_reducible rfl)
        try simp only [Act.put, List.setIfInBounds_toArray, List.set_cons_zero, List.set_cons_succ]

        refine till_one (i := 7) rfl (by kernel_rfl) (fun K' hK => ?_)
        go_simp
        refine hK.out _ _ (HSX.out _ (bl_alloc hb4' _)) (fun hHeld3 => ?_)
        clear hK K' hHeld2
        try simp only [Act.put, List.setIfInBounds_toArray, List.set_cons_zero, List.set_cons_succ]
        have hr4 := own_lies hrow hb4'
        have hv4 : Boxed w4 wr.heap.size 24 v := (hb4'.block _ hv.lt).trans hv
        have hz4 := hb4'.size
        have hlt2 : pre.length < 32 := by omega
        refine till_late (i := 8) rfl (by decide) (by kernel_rfl) (fun K' hK => ?_)
        refine step_app2 rfl (.tmp 44) (.tmp 51) rfl elCv (fun _ => rfl) ln_one (xs := pre.map (latW t)) (ys := [latW t x]) rfl rfl (by simp) (own_lies hr4 (bl_alloc (Below.refl _ _) _)) (sat_oneL w4 (latW t x) rfl) (by simp; omega) (by unfold maxLen; simp; omega) (by simp; omega) ?_
        intro v' w5 hown' hgrow
        rw [show (pre.map (latW t) ++ [latW t x]).length = pre.length + 1 by simp] at hown'
        obtain ⟨A6, c6, rfl⟩ := own_form hown'
        obtain ⟨q1, q2, q3, q4, q5, q6⟩ := box_appended hv4 (by decide) hr4 (by omega) hown' hgrow
        refine hK.out _ _ ?_
        clear hK K'
        try simp only [Act.put, List.setIfInBounds_toArray, List.set_cons_zero, List.set_cons_succ]
        have k0 := q1.cell
        have k1 := q1.frozen
        refine till_late (i := 9) rfl (by decide) (by kernel_rfl) (fun K' hK => ?_)
        go_simp
        refine hK.out _ _ ?_
        clear hK K'
        refine till_done (by kernel_rfl) ?_ _
        rw [show min wr.heap.size (wr.heap.size + 3) = wr.heap.size by omega] at q6
        refine ⟨(KeepsFrom.of_grownBy (below_grown hb4') (fun _ e => by cases e)).trans (q4.from _), (KeepX.below hb4' (by omega)).trans q5, ⟨_, q2, by simpa using q3, trivial⟩, (hB.trans (hb4'.mono hB.size)).trans q6, ?_⟩
        have h5 := q6.size
        omega
      case hdone =>
        rintro D ys W hD rfl ⟨⟨v, hv, hrow, -⟩, hB, hZ⟩ hK
        have hmap : (c.drop f).map (latW t) = laterL c t := by
          unfold laterL
          rw [HFF.out]
          refine List.map_congr_left fun x hx => ?_
          unfold latW
          rw [atW_eq (HM.out x (List.mem_of_mem_drop hx)) ht0 ht1]
        rw [hmap] at hrow
        have hl7 : (laterL c t).length = (c.drop f).length := by rw [← hmap, List.length_map]
        rw [← hl7] at hrow
        have he := each_any v (laterL c t) W (SAt.ofOwn (fun _ => rfl) rfl hrow)
        obtain ⟨A7, c7, rfl⟩ := own_form hrow
        have c0 := hv.cell
        have HR := Lib.hid hrow
        have HV := Lib.hid hv
        have HBB := Lib.hid hB
        have HKD := Lib.hid hK
        have HB1' := HB1
        clear hrow hv hB hK hmap hst hl7 hlen hx3 hb3 hT3
        generalize hls : laterL c t = ls at *
        have HLS := Lib.hid hls
        have hDs : D < W.heap.size := (Array.getElem?_eq_some_iff.1 HKD.out).1
        have hwD : w.heap.size ≤ D := by omega
        clear hls
        cases hev : eachB ls with
        | true =>
          rw [hev] at he
          go_wp2_with (go_at_call 31; refine he.mono ?_; rintro e w9 ⟨rfl, hb9⟩; have c9 := bl_cell hb9 c0)
          have hK2 : w9.heap[D]? = some (.deferred (some [])) := (hb9.block D hDs).trans HKD.out
          refine ⟨by simp, .inl ⟨_, _, rfl, run_takeDeferred hK2, ?_⟩⟩
          refine ⟨_, results_tmp2 rfl _ _ _, ?_⟩
          unfold LaterPost
          rw [HLS.out]
          exact ⟨.inl ⟨hev, _, rfl, SAt.ofOwn (fun _ => rfl) rfl (ownsRow_putObj (own_lies HR.out hb9) _ hK2 rfl)⟩, (bl_then HB1.out (bl_then HB.out (bl_then HBB.out hb9))).trans (belowK_b (w := w) (Nat.le_refl _) _ D _ _ hwD hK2 rfl rfl)⟩
        | false =>
          rw [hev] at he
          go_wp2_with (go_at_call 31; refine he.mono ?_; rintro e w9 ⟨rfl, hb9⟩; have c9 := bl_cell hb9 c0)
          have hK2 : w9.heap[D]? = some (.deferred (some [])) := (hb9.block D hDs).trans HKD.out
          refine ⟨by simp, .inl ⟨_, _, rfl, run_takeDeferred hK2, ?_⟩⟩
          refine ⟨_, results_tmp2 rfl _ _ _, ?_⟩
          unfold LaterPost
          rw [HLS.out]
          exact ⟨.inr ⟨hev, rfl⟩, (bl_then HB1.out (bl_then HB.out (bl_then HBB.out hb9))).trans (belowK_b (w := w) (Nat.le_refl _) _ D _ _ hwD hK2 rfl rfl)⟩
end Go.Proofs.Ytmkjiflliejjjaa
