/- Curve: CurveMins. -/
import Derived.Test.YtmkjiflliejjjaaCurAI
namespace Go.Proofs.Ytmkjiflliejjjaa
open Go.RowKit Go.Shelf Go.Sort
set_option linter.unusedVariables false
set_option linter.unusedSimpArgs false
attribute [local go_sem] Oper.semAt_some
def rkB (ps : List Cv) (k : Nat) : Bool := decide ((0 : Int) < (ps.length : Int)) && (ps.take k).all (fun p => okC p.2)
theorem rk_all (ps : List Cv) : rkB ps ps.length = rightB ps := by
  unfold rkB rightB
  rw [List.take_length]
  congr 1
  · rw [decide_eq_decide]; omega
  · rw [Bool.eq_iff_iff, List.all_eq_true, Bool.not_eq_true', List.any_eq_false]
    simp
theorem rk_succ {ps : List Cv} {k : Nat} {p : Cv} (h : ps[k]? = some p) : rkB ps (k + 1) = (rkB ps k && okC p.2) := by
  unfold rkB
  rw [← take_snoc' h, List.all_append, Bool.and_assoc]
  simp
theorem all_len {ps : List Cv} : ∀ {k : Nat}, k ≤ ps.length → (∀ j p, j < k → ps[j]? = some p → p.2.length ≤ 8) → (allLines (ps.take k)).length ≤ 8 * k
  | 0, _, _ => by simp [allLines]
  | k + 1, hk, h => by
    obtain ⟨p, hp⟩ : ∃ p, ps[k]? = some p := ⟨_, List.getElem?_eq_getElem (by omega)⟩
    have ih := all_len (k := k) (by omega) (fun j q hj hq => h j q (by omega) hq)
    have := h k p (by omega) hp
    rw [all_snoc hp, List.length_append]
    omega
theorem refAt_fine {c : List Ln} {qs : List Cv} (hc : okC c = true) {k : Nat} (hk : k ≤ qs.length) (h : (refAt c qs k).2 = 0) : (refAt c qs k).1 = sumAt c qs k ∧ sumAt c qs k ≠ [] ∧ (sumAt c qs k).length ≤ 32 ∧ ∀ l ∈ sumAt c qs k, mayB l = true := by
  obtain ⟨h1, h2⟩ := refAt_ok hk h
  refine ⟨by rw [h1], ?_⟩
  cases k with
  | zero => rw [sumAt_zero]; have := okC_may hc; exact ⟨this.1, this.2.2.1, this.2.1⟩
  | succ k =>
    obtain ⟨p, hp⟩ : ∃ p, qs[k]? = some p := ⟨_, List.getElem?_eq_getElem (by omega)⟩
    have := h2 k p (by omega) hp
    rw [sumAt_succ hp]
    unfold madeB at this
    simp only [Bool.and_eq_true, decide_eq_true_eq] at this
    have h3 := eachB_iff.1 this.2
    exact ⟨h3.1, this.1, h3.2⟩
theorem ht_bound {l : Ln} {n d : Int} (h : mayB l = true) (h0 : 0 ≤ n) (h1 : n ≤ 1000000) (h2 : 0 ≤ d) (h3 : d ≤ 100) : 0 ≤ ht l n d ∧ ht l n d ≤ 2000000000000000 := by
  simp only [mayB, inB, Bool.and_eq_true, decide_eq_true_eq] at h
  have k1 := Int.mul_nonneg h.2.1 h0
  have k2 : l.r * n ≤ 1000000000 * 1000000 := Int.mul_le_mul h.2.2 h1 h0 (by omega)
  have k3 := Int.mul_nonneg h.1.1 h2
  have k4 : l.b * d ≤ 1000000000 * 100 := Int.mul_le_mul h.1.2 h3 h2 (by omega)
  unfold ht
  omega
theorem hi_bound {ps : List Cv} (hq : ∀ p ∈ ps, okC p.2 = true) {n d : Int} (h0 : 0 ≤ n) (h1 : n ≤ 1000000) (h2 : 0 ≤ d) (h3 : d ≤ 100) : ∀ k, k ≤ ps.length → 0 ≤ hiAt ps n d k ∧ hiAt ps n d k ≤ k * 2000000000000000
  | 0, _ => by simp [hiAt]
  | k + 1, hk => by
    obtain ⟨p, hp⟩ : ∃ p, ps[k]? = some p := ⟨_, List.getElem?_eq_getElem (by omega)⟩
    have ih := hi_bound hq h0 h1 h2 h3 k (by omega)
    obtain ⟨x1, x2, -, -⟩ := okC_may (hq p (List.mem_of_getElem? hp))
    obtain ⟨z, hz, e⟩ := htC_mem x1 n d
    have := ht_bound (x2 z hz) h0 h1 h2 h3
    rw [hiAt_succ hp, e]
    omega
def madeE (ls : List Ln) : Int := if madeB ls = true then 0 else 3
def madeL (ls : List Ln) : List Ln := if madeB ls = true then lowL ls else []
theorem madeIs_any {ls : List Ln} {w : World} {e : Ending} {w' : World} (h : MadeIs ls w e w') : (∃ v', e = .returned (.tuple #[v', .int .i64 (madeE ls)]) ∧ SAt Ln.cells 2 w' v' (madeL ls)) ∧ Below w.heap.size w w' := by
  unfold madeE madeL
  obtain ⟨⟨hm, v', he, hs⟩ | ⟨hm, he⟩, hb⟩ := h
  · rw [if_pos hm, if_pos hm]; exact ⟨⟨v', he, hs⟩, hb⟩
  · rw [if_neg (by rw [hm]; decide), if_neg (by rw [hm]; decide)]; exact ⟨⟨_, he, SAt.nil⟩, hb⟩
set_option maxRecDepth 100000 in
set_option maxHeartbeats 16000000 in
theorem curveMins_any (V : Value) (ps : List Cv) (n d : Int) (w : World) (h : CvsW w V ps) :
    Calls Try.prog 9 #[V, .int .i64 n, .int .i64 d] w fun e w' => e = .returned (.bool true) ∧ Below w.heap.size w w' := by
  have hlm := h.1.len
  unfold maxLen at hlm
  have H := Lib.hid h
  obtain ⟨A, cc, rfl⟩ := h.1.slice
  clear h
  obtain ⟨R, hR⟩ : ∃ R : Ending → World → Prop, R = fun e w' => e = .returned (.bool true) ∧ Below w.heap.size w w' := ⟨_, rfl⟩
  rw [← hR]
  have HR := Lib.hid hR
  clear hR
  by_cases h6 : ps.length ≤ 6
  rotate_left 1
  · have h6z : (6 : Int) < (ps.length : Int) := by omega
    have HB : Hid (Below w.heap.size w w) := Lib.hid (Below.refl _ _)
    go_enter Try.func9, Try.ntmps9
    go_wp2_with (go_at_call 11; (with_reducible refine (known_any _).mono ?_); rintro e w' ⟨rfl, hb⟩; replace HB := Lib.hid (bl_then HB.out hb); clear hb)
    all_goals (rw [HR.out]; exact ⟨rfl, HB.out⟩)
  have h6z : ¬ (6 : Int) < (ps.length : Int) := by omega
  go_enter Try.func9, Try.ntmps9
  go_wp2_with fail
  go_loopg [7, 8, 9] (ps.length + 1) (fun gg s7 s8 s9 wr => ∃ k : Nat, k ≤ ps.length ∧ ps.length - k ≤ gg ∧ s9 = .int .i64 k ∧ s7 = .bool (rkB ps k) ∧ Aside (wr.ownsRow w.heap.size 39 2 s8 (allLines (ps.take k)).length ((allLines (ps.take k)).flatMap Ln.cells)) ∧ Aside (∀ j p, j < k → ps[j]? = some p → p.2.length ≤ 8) ∧ Aside (Below w.heap.size w wr))
  case atStart => exact ⟨0, by omega, by omega, rfl, by simp [rkB], (show World.ownsRow _ _ _ _ _ _ _ from by simp [allLines]; exact World.ownsRow_nil _ _ _ _), fun j p hj => by omega, Below.refl _ _⟩
  case round =>
    obtain ⟨k, hk, hgg, rfl, rfl, HO, H8, HB⟩ := hrel
    by_cases hlt : k < ps.length
    · have hltz : (k : Int) < (ps.length : Int) := by omega
      have hgk : ps[k]? = some ps[k] := List.getElem?_eq_getElem hlt
      generalize ps[k] = p at hgk
      have hel := (H.out.2 p (List.mem_of_getElem? hgk)).below HB.out
      rcases (H.out.1.below HB.out) with ⟨e1, e2⟩ | ⟨b, o, c2, e1, _, _, hrow⟩
      · subst e2; simp at hlt
      simp only [Value.slice.injEq] at e1
      obtain ⟨rfl, -, rfl⟩ := e1
      have hcp : wr.cell? ⟨b, o + k, none⟩ = some p.1 := by
        have := hrow k p hgk 0 _ rfl
        simpa using this
      have hri := fun W (hW : Below wr.heap.size wr W) => rright_el p.1 p.2 W (hel.below hW)
      have hpl := hel.len
      unfold maxLen at hpl
      obtain ⟨Ap, cp, hpv⟩ := hel.form
      obtain ⟨v, c⟩ := p
      simp only at hpv hcp hri hpl
      subst hpv
      have HG := Lib.hid hgk
      have HEL := Lib.hid hel
      have HRI := Lib.hid hri
      have HCP : Hid (∀ W, Below wr.heap.size wr W → W.cell? ⟨b, o + k, none⟩ = some (.slice Ap c.length cp)) := Lib.hid fun W hW => bl_cell hW hcp
      have HB0 := Lib.hid HB.out
      have H80 := Lib.hid H8.out
      have hrk := rk_succ hgk
      have HRK := Lib.hid hrk
      have hal := all_len hk H8.out
      have has := all_snoc hgk
      obtain ⟨L, hL⟩ : ∃ L, L = allLines (ps.take k) := ⟨_, rfl⟩
      have hO2 := HO.out
      rw [← hL] at hal has hO2
      have HAS := Lib.hid has
      obtain ⟨A5, c5, rfl⟩ := own_form hO2
      have HOO := Lib.hid hO2
      clear hrow hgk hel hri hrk has hL hO2 HO HB H8
      by_cases h8 : c.length ≤ 8
      rotate_left 1
      · have h8z : (8 : Int) < (c.length : Int) := by omega
        have HB : Hid (Below w.heap.size w wr) := Lib.hid HB0.out
        go_wp2_with (go_at_call 11; (with_reducible refine (known_any _).mono ?_); rintro e w' ⟨rfl, hb⟩; replace HB := Lib.hid (bl_then HB.out hb); clear hb)
        all_goals (rw [HR.out]; exact ⟨rfl, HB.out⟩)
      have h8z : ¬ (8 : Int) < (c.length : Int) := by omega
      have HL1 : Hid (L.length + c.length ≤ maxLen ∧ (L.length + c.length) * 16 ≤ 140737488355328) := Lib.hid (by simp only [maxLen]; omega)
      have H8N : Hid (∀ j p, j < k + 1 → ps[j]? = some p → p.2.length ≤ 8) := Lib.hid fun j p hj hp => by
        by_cases e : j = k
        · subst e; rw [HG.out] at hp; cases hp; exact h8
        · exact H80.out j p (by omega) hp
      generalize hN : L.length = N at *
      have HN := Lib.hid hN
      clear hN hal
      cases hq : rkB ps k with
      | false =>
        rw [hq] at HRK
        have HBK : Hid (Below wr.heap.size wr wr) := Lib.hid (Below.refl _ _)
        clear hq
        go_wp2_with (at_builtin; go_loud (refine wpList_appE rfl (.tmp 49) (.tmp 53) rfl Try.underlying24 elLs (fun _ => rfl) ln_one (base := w.heap.size) (v := .slice A5 N c5) (src := .slice Ap c.length cp) (xs := L) (ys := c) (by go_simp) (by go_simp) HN.out.symm (own_lies HOO.out HBK.out) (HEL.out.below HBK.out) (Nat.le_trans HB0.out.size HBK.out.size) (by have := HN.out; have := HL1.out; omega) (by have := HN.out; have := HL1.out; omega) ?_; intro v9 w9 hown9 hg9; have hb9 : Below w.heap.size w w9 := (bl_then HB0.out HBK.out).trans (own_below (own_lies HOO.out HBK.out) hg9 (Nat.le_trans HB0.out.size HBK.out.size)); clear hg9))
        have HF := Lib.hid (And.intro hown9 hb9)
        clear hown9 hb9
        go_wp2_with fail
        go_roundg (ps.length - (k + 1))
        case measure => omega
        case rel => exact ⟨k + 1, by omega, by omega, by go_num, by rw [HRK.out]; rfl, (show World.ownsRow _ _ _ _ _ _ _ from by rw [HAS.out]; exact HF.out.1), H8N.out, HF.out.2⟩
      | true =>
        rw [hq] at HRK
        clear hq
        go_wp2_with fail
        refine (HRI.out _ (Below.refl _ _)).mono ?_
        rintro e w3 ⟨rfl, hb3⟩
        have HBK : Hid (Below wr.heap.size wr w3) := Lib.hid hb3
        have hcp3 := HCP.out w3 hb3
        clear hb3
        go_wp2_with (at_builtin; go_loud (refine wpList_appE rfl (.tmp 49) (.tmp 53) rfl Try.underlying24 elLs (fun _ => rfl) ln_one (base := w.heap.size) (v := .slice A5 N c5) (src := .slice Ap c.length cp) (xs := L) (ys := c) (by go_simp) (by go_simp) HN.out.symm (own_lies HOO.out HBK.out) (HEL.out.below HBK.out) (Nat.le_trans HB0.out.size HBK.out.size) (by have := HN.out; have := HL1.out; omega) (by have := HN.out; have := HL1.out; omega) ?_; intro v9 w9 hown9 hg9; have hb9 : Below w.heap.size w w9 := (bl_then HB0.out HBK.out).trans (own_below (own_lies HOO.out HBK.out) hg9 (Nat.le_trans HB0.out.size HBK.out.size)); clear hg9))
        have HF := Lib.hid (And.intro hown9 hb9)
        clear hown9 hb9
        go_wp2_with fail
        go_roundg (ps.length - (k + 1))
        case measure => omega
        case rel => exact ⟨k + 1, by omega, by omega, by go_num, by rw [HRK.out]; rfl, (show World.ownsRow _ _ _ _ _ _ _ from by rw [HAS.out]; exact HF.out.1), H8N.out, HF.out.2⟩
    · obtain rfl : k = ps.length := by omega
      have hltz : ¬ ((ps.length : Nat) : Int) < ((ps.length : Nat) : Int) := by omega
      rw [rk_all]
      have hO := HO.out
      have hal := all_len (Nat.le_refl _) H8.out
      rw [List.take_length] at hO hal
      have hsat := SAt.ofOwn (enc := Ln.cells) (fun _ => rfl) rfl hO
      obtain ⟨A5, c5, rfl⟩ := own_form hO
      have HS := Lib.hid hsat
      have H8' := Lib.hid H8.out
      have HB0 := Lib.hid HB.out
      have HAL := Lib.hid hal
      obtain ⟨w1, hw1⟩ : ∃ w1, w1 = wr := ⟨_, rfl⟩
      subst hw1
      clear hO hsat HO H8 HB hal
      have HB : Hid (Below w.heap.size w w1) := Lib.hid HB0.out
      cases hr : rightB ps with
      | false =>
        have HM := Lib.hid fun W (hW : Below w.heap.size w W) => min_no_W _ ps W (H.out.below hW) hr
        have HSU := Lib.hid fun W (hW : Below w.heap.size w W) => sum_no_W _ ps W (H.out.below hW) hr
        have HTO := Lib.hid fun W => told_any (.slice none 0 0) (.slice none 0 0) [] [] 2 2 W SAt.nil SAt.nil
        clear hr
        generalize (allLines ps).length = M at *
        go_wp2_with (first | (go_at_call 25; (with_reducible refine (HM.out _ HB.out).mono ?_); rintro e w' ⟨rfl, hb⟩; replace HB := Lib.hid (bl_then HB.out hb); clear hb) | (go_at_call 29; (with_reducible refine (HSU.out _ HB.out).mono ?_); rintro e w' ⟨rfl, hb⟩; replace HB := Lib.hid (bl_then HB.out hb); clear hb) | (go_at_call 14; (with_reducible refine (HTO.out _).mono ?_); rintro e w' ⟨rfl, hb⟩; replace HB := Lib.hid (bl_then HB.out hb); clear hb) | (go_at_call 11; (with_reducible refine (known_any _).mono ?_); rintro e w' ⟨rfl, hb⟩; replace HB := Lib.hid (bl_then HB.out hb); clear hb))
        all_goals (rw [HR.out]; exact ⟨rfl, HB.out⟩)
      | true =>
        have hat := H.out.at hr
        have hokc := (rightB_iff.1 hr).2
        obtain ⟨p0, qs, hps⟩ : ∃ p0 qs, ps = p0 :: qs := by
          cases hc : ps with
          | nil => rw [hc] at hr; simp [rightB] at hr
          | cons p qs => exact ⟨p, qs, rfl⟩
        have hok0 : okC p0.2 = true := hokc p0 (by rw [hps]; simp)
        have hokq : ∀ p ∈ qs, okC p.2 = true := fun p hp => hokc p (by rw [hps]; simp [hp])
        have hneA : allLines ps ≠ [] := by
          rw [hps]
          have := (okC_may hok0).1
          simp [allLines, this]
        have hq8 : ∀ p ∈ qs, p.2.length ≤ 8 := fun p hp => by
          obtain ⟨j, hj⟩ := List.getElem?_of_mem hp
          have hjl := (List.getElem?_eq_some_iff.1 hj).1
          exact H8'.out (j + 1) p (by rw [hps]; simp; omega) (by rw [hps]; simpa using hj)
        have h08 : p0.2.length ≤ 8 := H8'.out 0 p0 (by rw [hps]; simp) (by rw [hps]; simp)
        have hql : qs.length ≤ 5 := by rw [hps] at h6; simp at h6; omega
        have hsm : ∀ k, (sumAt p0.2 qs k).length ≤ 262144 := fun k => by
          by_cases hk : k ≤ 5
          · exact Nat.le_trans (sumAt_small h08 hq8 k) (Nat.le_trans (Nat.pow_le_pow_right (by omega) (show k + 1 ≤ 6 by omega)) (by decide))
          · have : sumAt p0.2 qs k = sumAt p0.2 qs 5 := by unfold sumAt; rw [List.take_of_length_le (by omega), List.take_of_length_le (by omega)]
            rw [this]
            exact Nat.le_trans (sumAt_small h08 hq8 5) (by decide)
        have hsm2 : ∀ k p, qs[k]? = some p → (sumAt p0.2 qs k).length * p.2.length ≤ 1000000 := fun k p hp => by
          have hkl := (List.getElem?_eq_some_iff.1 hp).1
          have h1 := Nat.mul_le_mul (sumAt_small h08 hq8 k) (hq8 p (List.mem_of_getElem? hp))
          refine Nat.le_trans h1 ?_
          rw [← Nat.pow_succ]
          exact Nat.le_trans (Nat.pow_le_pow_right (by omega) (show k + 1 + 1 ≤ 6 by omega)) (by decide)
        have hal48 : (allLines ps).length ≤ 48 := by have := HAL.out; omega
        have hfitA := all_fits hr
        have hmin := fun W (hW : Below w.heap.size w W) => (min_any _ ps W (hat.below hW) (by omega)).mono fun e w' hh => by
          rcases hh with ⟨h, -⟩ | ⟨-, h⟩
          · rw [hr] at h; cases h
          · exact madeIs_any h
        have hsum : ∀ W, Below w.heap.size w W → Calls Try.prog 29 #[.slice A ps.length cc] W fun e w' => (∃ v', e = .returned (.tuple #[v', .int .i64 (refAt p0.2 qs qs.length).2]) ∧ SAt Ln.cells 2 w' v' (refAt p0.2 qs qs.length).1) ∧ Below W.heap.size W w' := fun W hW => by
          have h1 := hat.below hW
          rw [hps] at h1 hr ⊢
          exact (sum_yes _ p0 qs W h1 hr hsm2 (fun k => Nat.le_trans (hsm k) (by omega))).mono fun e w' hh => by
            obtain ⟨v', h1, h2, h3⟩ := sum_is hok0 hokq hh
            exact ⟨⟨v', h1, h2⟩, h3⟩
        have hmade := fun W (hW : Below w1.heap.size w1 W) => (rmade_any _ (allLines ps) W (HS.out.below hW) hneA (fun l hl => fits_of (hfitA l hl)) (by omega)).mono fun e w' (hh : RMade (allLines ps) W e w') => madeIs_any hh
        have hN : ps.length = qs.length + 1 := by rw [hps]; simp
        have hcell : ∃ b o, A = some ⟨b, o, none⟩ ∧ ∀ k p, ps[k]? = some p → w.cell? ⟨b, o + k, none⟩ = some p.1 := by
          rcases H.out.1 with ⟨-, e2⟩ | ⟨b, o, c2, e1, _, _, hrow⟩
          · rw [e2] at hN; simp at hN
          · simp only [Value.slice.injEq] at e1
            exact ⟨b, o, e1.1, fun k p hp => by have := hrow k p hp 0 _ rfl; simpa using this⟩
        obtain ⟨b, o, rfl, hcell⟩ := hcell
        have HC := Lib.hid hcell
        have HAT := Lib.hid (fun p hp => hat.2 p hp)
        have HOK := Lib.hid (And.intro hok0 (And.intro hokq (And.intro hq8 hokc)))
        have HPS := Lib.hid hps
        have HMIN := Lib.hid hmin
        have HSUM := Lib.hid hsum
        have HMADE := Lib.hid hmade
        have HNN := Lib.hid hN
        have HRF : Hid (∀ k, k ≤ qs.length → (refAt p0.2 qs k).2 = 0 → (refAt p0.2 qs k).1 = sumAt p0.2 qs k ∧ sumAt p0.2 qs k ≠ [] ∧ (sumAt p0.2 qs k).length ≤ 32 ∧ ∀ l ∈ sumAt p0.2 qs k, mayB l = true) := Lib.hid fun k hk h => refAt_fine hok0 hk h
        have HHI := Lib.hid fun (h0 : 0 ≤ n) (hd : 0 < d) => hi_sum (v := p0.1) (okC_may hok0).1 (fun p hp => (okC_may (hokq p hp)).1) h0 hd qs.length (Nat.le_refl _)
        clear hr hat hokc hps hok0 hokq hneA hq8 h08 hsm hsm2 hfitA hmin hsum hmade hN hcell HAL HS hal48
        generalize madeE (allLines ps) = me at *
        generalize madeL (allLines ps) = ml at *
        generalize (allLines ps).length = M at *
        go_wp2_with fail
        refine (HMIN.out _ HB.out).mono ?_
        rintro e w2 ⟨⟨vm, rfl, hsm⟩, hb2⟩
        obtain ⟨Am, cm, rfl⟩ := hsm.slice
        have HSM := Lib.hid hsm
        have HBa : Hid (Below w1.heap.size w1 w2) := Lib.hid hb2
        replace HB := Lib.hid (bl_then HB.out hb2)
        clear hsm hb2
        go_wp2_with fail
        refine (HSUM.out _ HB.out).mono ?_
        rintro e w3 ⟨⟨vs, rfl, hss⟩, hb3⟩
        obtain ⟨T, hT⟩ : ∃ T, T = refAt p0.2 qs qs.length := ⟨_, rfl⟩
        rw [← hT] at hss ⊢
        have HT := Lib.hid hT
        obtain ⟨As, cs, rfl⟩ := hss.slice
        have HSS := Lib.hid hss
        have HBb : Hid (Below w2.heap.size w2 w3) := Lib.hid hb3
        replace HB := Lib.hid (bl_then HB.out hb3)
        clear hss hb3 hT
        go_wp2_with fail
        refine (HMADE.out _ (bl_then HBa.out HBb.out)).mono ?_
        rintro e w4 ⟨⟨vw, rfl, hsw⟩, hb4⟩
        have hto1 := fun W (hW : Below w4.heap.size w4 W) => told_any _ _ ml ml me me W (HSM.out.below (bl_then HBb.out (bl_then hb4 hW))) (hsw.below hW)
        rw [show (decide (me = me) && decide (ml = ml)) = true by simp] at hto1
        obtain ⟨Aw, cw, rfl⟩ := hsw.slice
        have HTO1 := Lib.hid hto1
        have HSS4 : Hid (SAt Ln.cells 2 w4 (.slice As T.1.length cs) T.1) := Lib.hid (HSS.out.below hb4)
        replace HB := Lib.hid (bl_then HB.out hb4)
        have hc0 : w4.cell? ⟨b, o, none⟩ = some p0.1 := by have := bl_cell HB.out (HC.out 0 p0 (by rw [HPS.out]; rfl)); simpa using this
        have hs0 := (HAT.out p0 (by rw [HPS.out]; simp)).below HB.out
        obtain ⟨A0, c0, hp0⟩ := hs0.slice
        rw [hp0] at hc0
        have HS0 := Lib.hid hs0
        have HP0 := Lib.hid hp0
        clear hsw hb4 hto1 hs0 hp0
        have hN0 : 0 < ps.length := by have := HNN.out; omega
        have hN0z : (0 : Int) < (ps.length : Int) := by omega
        have HB4 : Hid (Below w.heap.size w w4) := Lib.hid HB.out
        go_wp2_with fail
        go_loopg [16, 17, 18] (qs.length + 1) (fun gg s16 s17 s18 wr => ∃ k : Nat, k ≤ qs.length ∧ qs.length - k ≤ gg ∧ s18 = .int .i64 ((k + 1 : Nat) : Int) ∧ s17 = .int .i64 (refAt p0.2 qs k).2 ∧ Aside (SAt Ln.cells 2 wr s16 (refAt p0.2 qs k).1) ∧ Aside (Below w4.heap.size w4 wr))
        case atStart => exact ⟨0, by omega, by omega, rfl, rfl, (show SAt _ _ _ _ _ from by rw [← HP0.out]; exact HS0.out), Below.refl _ _⟩
        case round =>
          obtain ⟨k, hk, hgg, rfl, rfl, HSK, HBk⟩ := hrel
          by_cases hgo : k < qs.length ∧ (refAt p0.2 qs k).2 = 0
          · obtain ⟨hlt, h0⟩ := hgo
            obtain ⟨f1, f2, f3, f4⟩ := HRF.out k hk h0
            obtain ⟨p, hp⟩ : ∃ p, qs[k]? = some p := ⟨_, List.getElem?_eq_getElem hlt⟩
            have hpp : ps[k + 1]? = some p := by rw [HPS.out]; simpa using hp
            have hpm := List.mem_of_getElem? hp
            have hbW := bl_then HB4.out HBk.out
            have hcp := bl_cell hbW (HC.out (k + 1) p hpp)
            have hsp := (HAT.out p (List.mem_of_getElem? hpp)).below hbW
            have hokp := okC_may (HOK.out.2.1 p hpm)
            have hp8 := HOK.out.2.2.1 p hpm
            have hsk := HSK.out
            rw [f1] at hsk
            rw [h0]
            have hsu := fun W (hW : Below wr.heap.size wr W) => rsum_any _ _ (sumAt p0.2 qs k) p.2 W (hsk.below hW) (hsp.below hW) f4 hokp.2.1 (by omega) (by omega)
            have hnx : refAt p0.2 qs (k + 1) = if madeB (sumsL (sumAt p0.2 qs k) p.2) = true then (lowL (sumsL (sumAt p0.2 qs k) p.2), 0) else ([], 3) := by
              simp only [refAt, hp, h0, if_true, f1]
            have hfit : ∀ l ∈ sumsL (sumAt p0.2 qs k) p.2, fits l := fun l hl => by
              obtain ⟨x, hx, y, hy, rfl⟩ := sums_mem.1 hl
              have h1 := f4 x hx
              have h2 := hokp.2.1 y hy
              simp only [mayB, inB, Bool.and_eq_true, decide_eq_true_eq] at h1 h2
              unfold fits sumI
              simp only
              omega
            have hslen : (sumsL (sumAt p0.2 qs k) p.2).length ≤ 1000 := by
              rw [sums_len]
              exact Nat.le_trans (Nat.mul_le_mul f3 hp8) (by decide)
            have hsne := sums_ne f2 hokp.1
            obtain ⟨Ak, ck, hvk⟩ := hsk.slice
            obtain ⟨Ap, cp, hpv⟩ := hsp.slice
            rw [hpv] at hcp hsu
            subst hvk
            have HSU := Lib.hid hsu
            have HNX := Lib.hid hnx
            have HF := Lib.hid (And.intro hfit (And.intro hslen hsne))
            have HBK := Lib.hid HBk.out
            have hkz : ((k + 1 : Nat) : Int) < (ps.length : Int) := by have := HNN.out; omega
            have hkn : k + 1 < ps.length := by have := HNN.out; omega
            clear hpp hpm hbW hsp hokp hsk hsu hnx hfit hslen hsne hpv f1 f2 f3 f4 hp HSK HBk h0
            generalize sumsL (sumAt p0.2 qs k) p.2 = sl at *
            generalize (sumAt p0.2 qs k).length = kl at *
            generalize p.2.length = pl at *
            go_wp2_with fail
            refine (HSU.out _ (Below.refl _ _)).mono ?_
            rintro e w6 ⟨⟨v6, rfl, hs6⟩, hb6⟩
            have hmd := (rmade_any _ sl w6 hs6 HF.out.2.2 HF.out.1 HF.out.2.1).mono fun e w' (hh : RMade sl w6 e w') => hh
            obtain ⟨A6, c6, rfl⟩ := hs6.slice
            have HMD := Lib.hid hmd
            have HB6 := Lib.hid (bl_then HBK.out hb6)
            clear hs6 hmd hb6
            go_wp2_with fail
            refine HMD.out.mono ?_
            rintro e w7 ⟨⟨hmb, v7, rfl, hs7⟩ | ⟨hmb, rfl⟩, hb7⟩
            · have HG := Lib.hid (And.intro hs7 (bl_then HB6.out hb7))
              have hnx := HNX.out
              rw [if_pos hmb] at hnx
              have HNY := Lib.hid hnx
              clear hs7 hb7 hnx hmb
              go_wp2_with fail
              go_roundg (qs.length - (k + 1))
              case measure => omega
              case rel => exact ⟨k + 1, by omega, by omega, by go_num, by rw [HNY.out], (show SAt _ _ _ _ _ from by rw [HNY.out]; exact HG.out.1), HG.out.2⟩
            · have HG := Lib.hid (bl_then HB6.out hb7)
              have hnx := HNX.out
              rw [if_neg (by rw [hmb]; decide)] at hnx
              have HNY := Lib.hid hnx
              clear hb7 hnx hmb
              go_wp2_with fail
              go_roundg (qs.length - (k + 1))
              case measure => omega
              case rel => exact ⟨k + 1, by omega, by omega, by go_num, by rw [HNY.out], (show SAt _ _ _ _ _ from by rw [HNY.out]; exact SAt.nil), HG.out⟩
          · have hfin : refAt p0.2 qs k = T := by
              rw [HT.out]
              by_cases hlt : k < qs.length
              · have := refAt_stays (fun h => hgo ⟨hlt, h⟩) (qs.length - k)
                rw [show k + (qs.length - k) = qs.length by omega] at this
                exact this.symm
              · rw [show k = qs.length by omega]
            have hsk := HSK.out
            rw [hfin] at hsk hgo ⊢
            have hto2 := fun W (hW : Below wr.heap.size wr W) => told_any _ _ T.1 T.1 T.2 T.2 W (HSS4.out.below (bl_then HBk.out hW)) (hsk.below hW)
            rw [show (decide (T.2 = T.2) && decide (T.1 = T.1)) = true by simp] at hto2
            obtain ⟨Ak, ck, rfl⟩ := hsk.slice
            have HTO2 := Lib.hid hto2
            have HBK := Lib.hid HBk.out
            have HBW : Hid (Below w.heap.size w wr) := Lib.hid (bl_then HB4.out HBk.out)
            have HGO := Lib.hid hgo
            have hOKT : T.2 = 0 → T.1 ≠ [] ∧ (∀ l ∈ T.1, mayB l = true) ∧ (0 ≤ n → 0 < d → htC T.1 n d = hiAt ps n d ps.length) := fun h => by
              have h' : (refAt p0.2 qs qs.length).2 = 0 := by rw [← HT.out]; exact h
              obtain ⟨g1, g2, g3, g4⟩ := HRF.out _ (Nat.le_refl _) h'
              rw [HT.out, g1]
              refine ⟨g2, g4, fun h0 hd => ?_⟩
              rw [(HHI.out h0 hd).2, HNN.out, HPS.out]
            have HOKT := Lib.hid hOKT
            obtain ⟨tl, te⟩ := T
            simp only at HTO2 HOKT HGO HSS4 hgo
            clear hfin hsk hto2 hgo hOKT HSK HBk HT HSS
            obtain ⟨wk, hwk⟩ : ∃ wk, wk = wr := ⟨_, rfl⟩
            subst hwk
            have HB : Hid (Below w.heap.size w wk) := Lib.hid HBW.out
            have HB5 : Hid (Below w4.heap.size w4 wk) := Lib.hid HBK.out
            have HB6 : Hid (Below wk.heap.size wk wk) := Lib.hid (Below.refl _ _)
            by_cases hte : te = 0
            rotate_left 1
            · have hteb : (te == 0) = false := beq_eq_false_iff_ne.2 hte
              have hten : (te != 0) = true := by simp [hte]
              by_cases hlt : k < qs.length
              · have hkz : ((k + 1 : Nat) : Int) < (ps.length : Int) := by have := HNN.out; omega
                go_wp2_with (first | (go_at_call 14; (with_reducible refine (HTO1.out _ HB5.out).mono ?_); rintro e w' ⟨rfl, hb⟩; replace HB := Lib.hid (bl_then HB.out hb); replace HB5 := Lib.hid (bl_then HB5.out hb); replace HB6 := Lib.hid (bl_then HB6.out hb); clear hb) | (go_at_call 14; (with_reducible refine (HTO2.out _ HB6.out).mono ?_); rintro e w' ⟨rfl, hb⟩; replace HB := Lib.hid (bl_then HB.out hb); replace HB5 := Lib.hid (bl_then HB5.out hb); replace HB6 := Lib.hid (bl_then HB6.out hb); clear hb) | (go_at_call 11; (with_reducible refine (known_any _).mono ?_); rintro e w' ⟨rfl, hb⟩; replace HB := Lib.hid (bl_then HB.out hb); replace HB5 := Lib.hid (bl_then HB5.out hb); replace HB6 := Lib.hid (bl_then HB6.out hb); clear hb))
                all_goals (rw [HR.out]; exact ⟨rfl, HB.out⟩)
              · have hkz : ¬ ((k + 1 : Nat) : Int) < (ps.length : Int) := by have := HNN.out; omega
                go_wp2_with (first | (go_at_call 14; (with_reducible refine (HTO1.out _ HB5.out).mono ?_); rintro e w' ⟨rfl, hb⟩; replace HB := Lib.hid (bl_then HB.out hb); replace HB5 := Lib.hid (bl_then HB5.out hb); replace HB6 := Lib.hid (bl_then HB6.out hb); clear hb) | (go_at_call 14; (with_reducible refine (HTO2.out _ HB6.out).mono ?_); rintro e w' ⟨rfl, hb⟩; replace HB := Lib.hid (bl_then HB.out hb); replace HB5 := Lib.hid (bl_then HB5.out hb); replace HB6 := Lib.hid (bl_then HB6.out hb); clear hb) | (go_at_call 11; (with_reducible refine (known_any _).mono ?_); rintro e w' ⟨rfl, hb⟩; replace HB := Lib.hid (bl_then HB.out hb); replace HB5 := Lib.hid (bl_then HB5.out hb); replace HB6 := Lib.hid (bl_then HB6.out hb); clear hb))
                all_goals (rw [HR.out]; exact ⟨rfl, HB.out⟩)
            subst hte
            have hge : ¬ k < qs.length := fun h => HGO.out ⟨h, rfl⟩
            have hkz : ¬ ((k + 1 : Nat) : Int) < (ps.length : Int) := by have := HNN.out; omega
            obtain ⟨t1, t2, t3⟩ := HOKT.out rfl
            by_cases g0 : n < 0
            · clear t1 t2 t3
              go_wp2_with (first | (go_at_call 14; (with_reducible refine (HTO1.out _ HB5.out).mono ?_); rintro e w' ⟨rfl, hb⟩; replace HB := Lib.hid (bl_then HB.out hb); replace HB5 := Lib.hid (bl_then HB5.out hb); replace HB6 := Lib.hid (bl_then HB6.out hb); clear hb) | (go_at_call 14; (with_reducible refine (HTO2.out _ HB6.out).mono ?_); rintro e w' ⟨rfl, hb⟩; replace HB := Lib.hid (bl_then HB.out hb); replace HB5 := Lib.hid (bl_then HB5.out hb); replace HB6 := Lib.hid (bl_then HB6.out hb); clear hb) | (go_at_call 11; (with_reducible refine (known_any _).mono ?_); rintro e w' ⟨rfl, hb⟩; replace HB := Lib.hid (bl_then HB.out hb); replace HB5 := Lib.hid (bl_then HB5.out hb); replace HB6 := Lib.hid (bl_then HB6.out hb); clear hb))
              all_goals (rw [HR.out]; exact ⟨rfl, HB.out⟩)
            by_cases g1 : (1000000 : Int) < n
            · clear t1 t2 t3
              go_wp2_with (first | (go_at_call 14; (with_reducible refine (HTO1.out _ HB5.out).mono ?_); rintro e w' ⟨rfl, hb⟩; replace HB := Lib.hid (bl_then HB.out hb); replace HB5 := Lib.hid (bl_then HB5.out hb); replace HB6 := Lib.hid (bl_then HB6.out hb); clear hb) | (go_at_call 14; (with_reducible refine (HTO2.out _ HB6.out).mono ?_); rintro e w' ⟨rfl, hb⟩; replace HB := Lib.hid (bl_then HB.out hb); replace HB5 := Lib.hid (bl_then HB5.out hb); replace HB6 := Lib.hid (bl_then HB6.out hb); clear hb) | (go_at_call 11; (with_reducible refine (known_any _).mono ?_); rintro e w' ⟨rfl, hb⟩; replace HB := Lib.hid (bl_then HB.out hb); replace HB5 := Lib.hid (bl_then HB5.out hb); replace HB6 := Lib.hid (bl_then HB6.out hb); clear hb))
              all_goals (rw [HR.out]; exact ⟨rfl, HB.out⟩)
            by_cases g2 : d < 1
            · clear t1 t2 t3
              go_wp2_with (first | (go_at_call 14; (with_reducible refine (HTO1.out _ HB5.out).mono ?_); rintro e w' ⟨rfl, hb⟩; replace HB := Lib.hid (bl_then HB.out hb); replace HB5 := Lib.hid (bl_then HB5.out hb); replace HB6 := Lib.hid (bl_then HB6.out hb); clear hb) | (go_at_call 14; (with_reducible refine (HTO2.out _ HB6.out).mono ?_); rintro e w' ⟨rfl, hb⟩; replace HB := Lib.hid (bl_then HB.out hb); replace HB5 := Lib.hid (bl_then HB5.out hb); replace HB6 := Lib.hid (bl_then HB6.out hb); clear hb) | (go_at_call 11; (with_reducible refine (known_any _).mono ?_); rintro e w' ⟨rfl, hb⟩; replace HB := Lib.hid (bl_then HB.out hb); replace HB5 := Lib.hid (bl_then HB5.out hb); replace HB6 := Lib.hid (bl_then HB6.out hb); clear hb))
              all_goals (rw [HR.out]; exact ⟨rfl, HB.out⟩)
            by_cases g3 : (100 : Int) < d
            · clear t1 t2 t3
              go_wp2_with (first | (go_at_call 14; (with_reducible refine (HTO1.out _ HB5.out).mono ?_); rintro e w' ⟨rfl, hb⟩; replace HB := Lib.hid (bl_then HB.out hb); replace HB5 := Lib.hid (bl_then HB5.out hb); replace HB6 := Lib.hid (bl_then HB6.out hb); clear hb) | (go_at_call 14; (with_reducible refine (HTO2.out _ HB6.out).mono ?_); rintro e w' ⟨rfl, hb⟩; replace HB := Lib.hid (bl_then HB.out hb); replace HB5 := Lib.hid (bl_then HB5.out hb); replace HB6 := Lib.hid (bl_then HB6.out hb); clear hb) | (go_at_call 11; (with_reducible refine (known_any _).mono ?_); rintro e w' ⟨rfl, hb⟩; replace HB := Lib.hid (bl_then HB.out hb); replace HB5 := Lib.hid (bl_then HB5.out hb); replace HB6 := Lib.hid (bl_then HB6.out hb); clear hb))
              all_goals (rw [HR.out]; exact ⟨rfl, HB.out⟩)
            have i0 : 0 ≤ n := by omega
            have i1 : n ≤ 1000000 := by omega
            have i2 : 0 < d := by omega
            have i3 : d ≤ 100 := by omega
            have hra := fun W (hW : Below w4.heap.size w4 W) => rat_any _ tl n d W (HSS4.out.below hW) t1 (fun l hl => sumFits_of (t2 l hl) i0 (by omega) (by omega) (by omega))
            rw [t3 i0 i2] at hra
            have HRA := Lib.hid hra
            have HBD := Lib.hid fun j hj => hi_bound HOK.out.2.2.2 i0 i1 (Int.le_of_lt i2) i3 j hj
            clear t1 t2 t3 hra
            go_wp2_with (first | (go_at_call 14; (with_reducible refine (HTO1.out _ HB5.out).mono ?_); rintro e w' ⟨rfl, hb⟩; replace HB := Lib.hid (bl_then HB.out hb); replace HB5 := Lib.hid (bl_then HB5.out hb); replace HB6 := Lib.hid (bl_then HB6.out hb); clear hb) | (go_at_call 14; (with_reducible refine (HTO2.out _ HB6.out).mono ?_); rintro e w' ⟨rfl, hb⟩; replace HB := Lib.hid (bl_then HB.out hb); replace HB5 := Lib.hid (bl_then HB5.out hb); replace HB6 := Lib.hid (bl_then HB6.out hb); clear hb))
            obtain ⟨wz, hwz⟩ : ∃ wz, wz = w' := ⟨_, rfl⟩
            subst hwz
            go_loopg [19, 20] (ps.length + 1) (fun gg s19 s20 wr => ∃ j : Nat, j ≤ ps.length ∧ ps.length - j ≤ gg ∧ s20 = .int .i64 j ∧ s19 = .int .i64 (hiAt ps n d j) ∧ Aside (Below wz.heap.size wz wr))
            case atStart => exact ⟨0, by omega, by omega, rfl, rfl, Below.refl _ _⟩
            case round =>
              obtain ⟨j, hj, hgg3, rfl, rfl, HBj⟩ := hrel
              by_cases hlt : j < ps.length
              · have hltz : (j : Int) < (ps.length : Int) := by omega
                obtain ⟨p, hp⟩ : ∃ p, ps[j]? = some p := ⟨_, List.getElem?_eq_getElem hlt⟩
                have hbW := bl_then HB.out HBj.out
                have hcp := bl_cell hbW (HC.out j p hp)
                have hsp := (HAT.out p (List.mem_of_getElem? hp)).below hbW
                have hokp := okC_may (HOK.out.2.2.2 p (List.mem_of_getElem? hp))
                have hrt := rat_any _ p.2 n d _ hsp hokp.1 (fun l hl => sumFits_of (hokp.2.1 l hl) i0 (by omega) (by omega) (by omega))
                have hst := hiAt_succ (n := n) (d := d) hp
                have b1 := HBD.out j (by omega)
                have b2 := HBD.out (j + 1) (by omega)
                obtain ⟨Ap, cp, hpv⟩ := hsp.slice
                rw [hpv] at hcp hrt
                have HRT := Lib.hid hrt
                rw [hst] at b2
                have HST := Lib.hid hst
                have HBJ := Lib.hid HBj.out
                clear hp hbW hsp hokp hrt hpv hst HBj
                generalize htC p.2 n d = x at *
                generalize hiAt ps n d j = y at *
                generalize p.2.length = pl at *
                have ka : IntKind.i64.wrap (y + x) = y + x := by rw [IntWalk.i64_in _ (by omega)]
                go_wp2_with fail
                refine HRT.out.mono ?_
                rintro e w8 ⟨rfl, hb8⟩
                have HB8 := Lib.hid (bl_then HBJ.out hb8)
                clear hb8
                go_wp2_with fail
                go_roundg (ps.length - (j + 1))
                case measure => omega
                case rel => exact ⟨j + 1, by omega, by omega, by go_num, by rw [HST.out], HB8.out⟩
              · obtain rfl : j = ps.length := by omega
                have hltz : ¬ ((ps.length : Nat) : Int) < ((ps.length : Nat) : Int) := by omega
                have HBx := Lib.hid (bl_then HB5.out HBj.out)
                have HBy := Lib.hid (bl_then HB.out HBj.out)
                clear HB HB5 HB6 HBj HBD
                have HB : Hid _ := HBy
                have HB5 : Hid _ := HBx
                have HB6 : Hid (Below wr.heap.size wr wr) := Lib.hid (Below.refl _ _)
                generalize hiAt ps n d ps.length = y at *
                go_wp2_with (first | (go_at_call 18; (with_reducible refine (HRA.out _ HB5.out).mono ?_); rintro e w' ⟨rfl, hb⟩; replace HB := Lib.hid (bl_then HB.out hb); replace HB5 := Lib.hid (bl_then HB5.out hb); replace HB6 := Lib.hid (bl_then HB6.out hb); clear hb) | (go_at_call 11; (with_reducible refine (known_any _).mono ?_); rintro e w' ⟨rfl, hb⟩; replace HB := Lib.hid (bl_then HB.out hb); replace HB5 := Lib.hid (bl_then HB5.out hb); replace HB6 := Lib.hid (bl_then HB6.out hb); clear hb))
                all_goals (rw [HR.out]; exact ⟨rfl, HB.out⟩)
end Go.Proofs.Ytmkjiflliejjjaa
