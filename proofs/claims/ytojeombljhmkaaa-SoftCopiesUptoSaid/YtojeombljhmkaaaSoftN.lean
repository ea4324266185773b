/- Soft: slices.stableCmpFunc up to twenty; the order that comes of it. -/
import Derived.Test.YtojeombljhmkaaaSoftM
import Derived.Shelf.SlSortCmp.PdqK
namespace Go.Proofs.Ytojeombljhmkaaa
open Go.RowKit Go.Shelf Go.Sort
set_option linter.unusedVariables false
set_option linter.unusedSimpArgs false
attribute [local go_sem] Oper.semAt_some
/-- The order: by Forgotten, then by names. -/
def ltL (x y : Th) : Bool := decide (x.forgot < y.forgot) || (decide (x.forgot = y.forgot) && ltS x.name y.name)
theorem swoL : SWO ltL where
  irrefl x := by simp [ltL, ltS_irrefl]
  trans x y z h1 h2 := by
    simp only [ltL, Bool.or_eq_true, Bool.and_eq_true, decide_eq_true_eq] at *
    rcases h1 with h1 | ⟨h1, k1⟩ <;> rcases h2 with h2 | ⟨h2, k2⟩
    · exact .inl (by omega)
    · exact .inl (by omega)
    · exact .inl (by omega)
    · exact .inr ⟨by omega, ltS_trans k1 k2⟩
  ntrans x y z h1 h2 := by
    simp only [ltL, Bool.or_eq_false_iff, Bool.and_eq_false_iff, decide_eq_false_iff_not] at *
    refine ⟨by omega, ?_⟩
    by_cases h : x.forgot = z.forgot
    · right
      have hx : x.forgot = y.forgot := by omega
      have hy : y.forgot = z.forgot := by omega
      rcases h1.2 with h3 | h3
      · exact absurd hx h3
      · rcases h2.2 with h4 | h4
        · exact absurd hy h4
        · exact swo_ltStr.ntrans _ _ _ h3 h4
    · exact .inl h
theorem ltF_L {x y : Th} (h : ltS y.name x.name = true) : ltF x y = ltL x y := by
  unfold ltF ltL
  rw [ltS_asymm h]
  simp
theorem insInner_size (lt : Th → Th → Bool) (a : Nat) : ∀ j (d : Array Th), (insInner lt a j d).size = d.size
  | 0, d => rfl
  | j + 1, d => by
    unfold insInner
    split
    · rw [insInner_size lt a j]; exact swp_size _ _ _
    · rfl
theorem insInner_eq (a : Nat) : ∀ j (d : Array Th), j < d.size → (∀ i, a ≤ i → i < j → ltS d[i]!.name d[j]!.name = true) → insInner ltF a j d = insInner ltL a j d
  | 0, d, _, _ => rfl
  | j + 1, d, hj, h => by
    unfold insInner
    by_cases haj : j + 1 > a
    · rw [ltF_L (h j (by omega) (by omega))]
      split
      · refine insInner_eq a j _ (by rw [swp_size]; omega) fun i hi hij => ?_
        rw [swp_get d hj (by omega), swp_get d hj (by omega), if_neg (by omega), if_neg (by omega), if_pos rfl]
        exact h i hi (by omega)
      · rfl
    · simp [haj]
theorem insInner_from (lt : Th → Th → Bool) (a : Nat) : ∀ j (d : Array Th), j < d.size →
    (∀ k, j < k → (insInner lt a j d)[k]! = d[k]!) ∧ (∀ i, i < a → i ≤ j → (insInner lt a j d)[i]! = d[i]!) ∧ (∀ i, a ≤ i → i ≤ j → ∃ i', a ≤ i' ∧ i' ≤ j ∧ (insInner lt a j d)[i]! = d[i']!)
  | 0, d, _ => ⟨fun _ _ => rfl, fun _ _ _ => rfl, fun i h1 h2 => ⟨i, h1, h2, rfl⟩⟩
  | j + 1, d, hj => by
    unfold insInner
    split
    · next hc =>
      have haj : a ≤ j := by simp at hc; omega
      obtain ⟨h1, h2, h3⟩ := insInner_from lt a j (swp d (j + 1) j) (by rw [swp_size]; omega)
      refine ⟨fun k hk => ?_, fun i hi hij => ?_, fun i hi hij => ?_⟩
      · rw [h1 k (by omega), swp_get d hj (by omega), if_neg (by omega), if_neg (by omega)]
      · rw [h2 i hi (by omega), swp_get d hj (by omega), if_neg (by omega), if_neg (by omega)]
      · by_cases hij' : i ≤ j
        · obtain ⟨i', q1, q2, q3⟩ := h3 i hi hij'
          rw [q3, swp_get d hj (by omega)]
          by_cases e : i' = j
          · exact ⟨j + 1, by omega, by omega, by rw [if_pos e]⟩
          · exact ⟨i', q1, by omega, by rw [if_neg e, if_neg (by omega)]⟩
        · have e : i = j + 1 := by omega
          rw [h1 i (by omega), swp_get d hj (by omega), if_neg (by omega), if_pos e]
          exact ⟨j, haj, by omega, rfl⟩
    · exact ⟨fun _ _ => rfl, fun _ _ _ => rfl, fun i h1 h2 => ⟨i, h1, h2, rfl⟩⟩
theorem insOuter_eq (a b : Nat) : ∀ (n i : Nat) (d : Array Th), b - i = n → a < i → b ≤ d.size → (∀ i' k, a ≤ i' → i' < k → i ≤ k → k < b → ltS d[i']!.name d[k]!.name = true) → insOuter ltF a b i d = insOuter ltL a b i d
  | 0, i, d, hn, _, _, _ => by
    rw [insOuter.eq_def ltF, insOuter.eq_def ltL, if_neg (by omega), if_neg (by omega)]
  | n + 1, i, d, hn, hai, hb, h => by
    rw [insOuter.eq_def ltF, insOuter.eq_def ltL, if_pos (by omega), if_pos (by omega), insInner_eq a i d (by omega) fun i' h1 h2 => h i' i h1 h2 (Nat.le_refl _) (by omega)]
    refine insOuter_eq a b n (i + 1) _ (by omega) (by omega) (by rw [insInner_size]; exact hb) fun i' k h1 h2 h3 h4 => ?_
    obtain ⟨q1, q2, q3⟩ := insInner_from ltL a i d (by omega)
    rw [q1 k (by omega)]
    by_cases hi : i' ≤ i
    · obtain ⟨i'', r1, r2, r3⟩ := q3 i' h1 hi
      rw [r3]
      exact h i'' k r1 (by omega) (by omega) h4
    · rw [q1 i' (by omega)]
      exact h i' k h1 h2 (by omega) h4
theorem ins_eq (a b : Nat) (d : Array Th) (hb : b ≤ d.size) (h : ∀ i k, a ≤ i → i < k → k < b → ltS d[i]!.name d[k]!.name = true) : insertionSort ltF d a b = insertionSort ltL d a b :=
  insOuter_eq a b _ (a + 1) d rfl (by omega) hb fun i' k h1 h2 _ h4 => h i' k h1 h2 h4
theorem ins_w (g' cap : Nat) (d0 d : Array Th) (w0 w : World) (a b : Nat) (R : RowK Th.cells 4 w0 g' 0 d0) (hs : d0.size = d.size) (S : SWK Th.cells 4 w0 g' 0 d w) (hab : a ≤ b) (hb : b ≤ d.size) (hsz : d.size < 4611686018427387904) :
    Calls Try.prog 58 #[.slice (some ⟨g', 0, none⟩) d.size cap, .int .i64 a, .int .i64 b, .func (.func 35) #[] #[]] w fun e w' => e = .returned (.tuple #[]) ∧ SWK Th.cells 4 w0 g' 0 (insertionSort ltF d a b) w' := by
  have h := AnyQ.insertionSortCmpFunc_w (P := Try.prog) { Try.sortTh with } 4 Try.isAgg35 Try.sizeOf35 Th.cells cmpF 35 #[] g' 0 cap a b d0 d w0 w en_go2 (fun m os dk _ x y => go2_any x y _) R hs S swoF hab hb hsz
  rw [ltOf_F] at h
  exact h
set_option maxRecDepth 20000 in
set_option maxHeartbeats 400000 in
theorem stable_c20 (g' cap : Nat) (d0 : Array Th) (w0 : World) (R : RowK Th.cells 4 w0 g' 0 d0) (hsz : d0.size ≤ 20) :
    Calls Try.prog 49 #[.slice (some ⟨g', 0, none⟩) d0.size cap, .int .i64 d0.size, .func (.func 35) #[] #[]] w0 fun e w' => e = .returned (.tuple #[]) ∧ SWK Th.cells 4 w0 g' 0 (insertionSort ltF d0 0 d0.size) w' := by
  have HR := Lib.hid R
  have HS0 := Lib.hid (SWK.start (enc := Th.cells) (k := 4) R.hH)
  clear R
  by_cases h20 : d0.size < 20
  · have hz1 : ((d0.size : Nat) : Int) < 20 := by omega
    obtain ⟨N, hN⟩ : ∃ N : Int, ((d0.size : Nat) : Int) = N := ⟨_, rfl⟩
    have hins := ins_w g' cap d0 d0 w0 w0 0 d0.size HR.out rfl HS0.out (by omega) (by omega) (by omega)
    generalize hd : insertionSort ltF d0 0 d0.size = d' at hins ⊢
    generalize hsl : Value.slice (some ⟨g', 0, none⟩) d0.size cap = v at hins ⊢
    have HI := Lib.hid hins
    rw [hN] at HI hz1 ⊢
    have hz2 : decide (20 ≤ N) = false := by simp; omega
    have hz3 : decide ((20 : Int) < N) = false := by simp; omega
    clear hins hd hsl HS0 HR h20 hsz hN
    go_enter Try.func49, Try.ntmps49
    go_wp2_with fail
    go_loopg [7, 8] 1 (fun gg s7 s8 wr => s7 = .int .i64 0 ∧ s8 = .int .i64 20 ∧ wr = w0)
    case atStart => exact ⟨rfl, rfl, rfl⟩
    case round =>
      obtain ⟨rfl, rfl, rfl⟩ := hrel
      go_wp2_with (go_at_call 58; refine HI.out.mono ?_; rintro e w' ⟨rfl, hS⟩; have HS2 := Lib.hid hS; clear hS)
      go_loopg [6, 7, 8, 9] 1 (fun gg s6 s7 s8 s9 wr2 => s6 = .int .i64 20 ∧ wr2 = w')
      case atStart => exact ⟨rfl, rfl⟩
      case round =>
        obtain ⟨rfl, rfl⟩ := hrel
        go_wp2_with fail
        go_end0
        exact ⟨rfl, HS2.out⟩
  · have he : d0.size = 20 := by omega
    have hins := ins_w g' cap d0 d0 w0 w0 0 20 HR.out rfl HS0.out (by omega) (by omega) (by omega)
    have hs1 : (insertionSort ltF d0 0 20).size = d0.size := (insertionSort_holds (ltOf_F ▸ swoF) d0 0 20 (by omega) (by omega)).1.1
    have hins2 := fun w (hS : SWK Th.cells 4 w0 g' 0 (insertionSort ltF d0 0 20) w) => ins_w g' cap d0 _ w0 w 20 20 HR.out hs1.symm hS (by omega) (by omega) (by omega)
    rw [show insertionSort ltF (insertionSort ltF d0 0 20) 20 20 = insertionSort ltF d0 0 20 by unfold insertionSort; rw [insOuter, if_neg (by omega)]] at hins2
    rw [hs1] at hins2
    rw [he] at hins hins2 ⊢
    generalize insertionSort ltF d0 0 20 = d' at hins hins2 ⊢
    generalize hsl : Value.slice (some ⟨g', 0, none⟩) 20 cap = v at hins hins2 ⊢
    have HI := Lib.hid hins
    have HI2 := Lib.hid hins2
    clear hins hins2 hsl HS0 HR h20 hsz hs1
    go_enter Try.func49, Try.ntmps49
    go_wp2_with fail
    go_loopg [7, 8] 2 (fun gg s7 s8 wr => (gg = 2 ∧ s7 = .int .i64 0 ∧ s8 = .int .i64 20 ∧ wr = w0) ∨ (s7 = .int .i64 20 ∧ s8 = .int .i64 40 ∧ Aside (SWK Th.cells 4 w0 g' 0 d' wr)))
    case atStart => exact .inl ⟨rfl, rfl, rfl, rfl⟩
    case round =>
      rcases hrel with ⟨rfl, rfl, rfl, rfl⟩ | ⟨rfl, rfl, HS1⟩
      · go_wp2_with (go_at_call 58; refine HI.out.mono ?_; rintro e w' ⟨rfl, hS⟩; have HS2 := Lib.hid hS; clear hS)
        go_roundg 1
        case measure => omega
        case rel => exact .inr ⟨rfl, rfl, HS2.out⟩
      · go_wp2_with (go_at_call 58; refine (HI2.out _ HS1.out).mono ?_; rintro e w' ⟨rfl, hS⟩; have HS2 := Lib.hid hS; clear hS)
        go_loopg [6, 7, 8, 9] 1 (fun gg s6 s7 s8 s9 wr2 => s6 = .int .i64 20 ∧ wr2 = w')
        case atStart => exact ⟨rfl, rfl⟩
        case round =>
          obtain ⟨rfl, rfl⟩ := hrel
          go_wp2_with fail
          go_end0
          exact ⟨rfl, HS2.out⟩
end Go.Proofs.Ytojeombljhmkaaa
