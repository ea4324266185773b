/- Soft: slices.rotateCmpFunc. -/
import Derived.Test.YtojeombljhmkaaaSoftAB
namespace Go.Proofs.Ytojeombljhmkaaa
open Go.RowKit Go.Shelf Go.Sort
set_option linter.unusedVariables false
set_option linter.unusedSimpArgs false
attribute [local go_sem] Oper.semAt_some
theorem swapRange_at (base g cap N a b n : Nat) (Pre X M Y Post : List Th) (fv : Value) (w : World) (h : RowS base g cap (Pre ++ (X ++ (M ++ (Y ++ Post)))) w) (hb0 : base ≤ w.heap.size) (hX : X.length = n) (hY : Y.length = n) (hN : (Pre ++ (X ++ (M ++ (Y ++ Post)))).length = N) (hlen : N ≤ 1000000) (ha : Pre.length = a) (hb : Pre.length + n + M.length = b) :
    Calls Try.prog 73 #[.slice (some ⟨g, 0, none⟩) N cap, .int .i64 (a : Int), .int .i64 (b : Int), .int .i64 (n : Int), fv] w fun e w' =>
      e = .returned (.tuple #[]) ∧ RowS base g cap (Pre ++ (Y ++ (M ++ (X ++ Post)))) w' ∧ Below base w w' := by
  have := swapRange_any base g cap n Pre X M Y Post fv w h hb0 hX hY (by omega)
  rw [hN, hb, ha] at this
  exact this
set_option maxRecDepth 100000 in
set_option maxHeartbeats 2000000 in
theorem rotate_any (base g cap N a m b : Nat) (Pre X Y Post : List Th) (fv : Value) (w : World) (h : RowS base g cap (Pre ++ (X ++ (Y ++ Post))) w) (hb0 : base ≤ w.heap.size) (hX : 0 < X.length) (hY : 0 < Y.length) (hN : (Pre ++ (X ++ (Y ++ Post))).length = N) (hlen : N ≤ 1000000) (ha : Pre.length = a) (hm : a + X.length = m) (hb : m + Y.length = b) :
    Calls Try.prog 63 #[.slice (some ⟨g, 0, none⟩) N cap, .int .i64 (a : Int), .int .i64 (m : Int), .int .i64 (b : Int), fv] w fun e w' =>
      e = .returned (.tuple #[]) ∧ RowS base g cap (Pre ++ (Y ++ (X ++ Post))) w' ∧ Below base w w' := by
  obtain ⟨Q, hQ⟩ : ∃ Q : Ending → World → Prop, Q = fun e w' => e = .returned (.tuple #[]) ∧ RowS base g cap (Pre ++ (Y ++ (X ++ Post))) w' ∧ Below base w w' := ⟨_, rfl⟩
  rw [← hQ]
  have HQ := Lib.hid hQ
  have HR := Lib.hid h
  have hbN : b ≤ N := by rw [← hN, ← hb, ← hm, ← ha]; simp only [List.length_append]; omega
  obtain ⟨i0, hi0⟩ : ∃ i0, i0 = X.length := ⟨_, rfl⟩
  obtain ⟨j0, hj0⟩ : ∃ j0, j0 = Y.length := ⟨_, rfl⟩
  have z1 : (m : Int) - (a : Int) = (i0 : Int) := by omega
  have z2 : (b : Int) - (m : Int) = (j0 : Int) := by omega
  have HE := Lib.hid (And.intro hN (And.intro ha (And.intro hm (And.intro hb (And.intro hi0 (And.intro hj0 hb0))))))
  have hi00 : 0 < i0 := by omega
  have hj00 : 0 < j0 := by omega
  have hmN : m + j0 ≤ N := by omega
  clear h hQ hX hY hN ha hm hb hb0 hi0 hj0
  go_enter Try.func63, Try.ntmps63
  go_wp2_with fail
  try rw [z1, z2]
  go_loopg [10, 11] (i0 + j0) (fun gg s10 s11 wr => ∃ (i j : Nat) (P' X' Y' Q' : List Th), i + j ≤ gg ∧ s10 = .int .i64 (i : Int) ∧ s11 = .int .i64 (j : Int) ∧ 0 < i ∧ 0 < j ∧ m + j ≤ N ∧ i ≤ m ∧ Aside (X'.length = i ∧ Y'.length = j ∧ P'.length + i = m ∧ P' ++ (Y' ++ (X' ++ Q')) = Pre ++ (Y ++ (X ++ Post)) ∧ (P' ++ (X' ++ (Y' ++ Q'))).length = N) ∧ Aside (RowS base g cap (P' ++ (X' ++ (Y' ++ Q'))) wr) ∧ Aside (Below base w wr))
  case atStart => exact ⟨i0, j0, Pre, X, Y, Post, by omega, rfl, rfl, hi00, hj00, hmN, by have := HE.out; omega, ⟨HE.out.2.2.2.2.1.symm, HE.out.2.2.2.2.2.1.symm, by have := HE.out; omega, rfl, HE.out.1⟩, HR.out, Below.refl _ _⟩
  case round =>
    obtain ⟨i, j, P', X', Y', Q', hgg, rfl, rfl, hi, hj, hmj, him, HF, HRW, HB⟩ := hrel
    have hbz : base ≤ wr.heap.size := Nat.le_trans HE.out.2.2.2.2.2.2 HB.out.size
    rcases Nat.lt_trichotomy i j with hlt | heq | hgt
    · have hne : ((i : Int) != (j : Int)) = true := by simpa [bne_iff_ne] using (by omega : ¬ (i : Int) = (j : Int))
      have hgz : ¬ (j : Int) < (i : Int) := by omega
      obtain ⟨Y1, Y2, hY12, hl1, hl2⟩ : ∃ Y1 Y2, Y' = Y1 ++ Y2 ∧ Y1.length = j - i ∧ Y2.length = i := ⟨Y'.take (j - i), Y'.drop (j - i), (List.take_append_drop _ _).symm, by have := HF.out.2.1; simp; omega, by have := HF.out.2.1; simp; omega⟩
      subst hY12
      have hf := HF.out
      have hc := swapRange_at base g cap N (m - i) (m + j - i) i P' X' Y1 Y2 Q' fv wr (by have := HRW.out; simpa using this) hbz hf.1 hl2 (by have := hf.2.2.2.2; simpa using this) hlen (by have := hf.2.2.1; omega) (by have := hf.2.2.1; omega)
      have e1 : ((m - i : Nat) : Int) = (m : Int) - (i : Int) := by omega
      have e2 : ((m + j - i : Nat) : Int) = (m : Int) + (j : Int) - (i : Int) := by omega
      rw [e1, e2] at hc
      have HC := Lib.hid hc
      have HL := Lib.hid (And.intro hl1 hl2)
      have e3 : (j : Int) - (i : Int) = ((j - i : Nat) : Int) := by omega
      clear hf hc e1 e2 hl1 hl2
      go_wp2_with (go_at_call 73; (with_reducible refine HC.out.mono ?_); rintro e w3 ⟨rfl, hr, hb3⟩; have HR3 := Lib.hid hr; have HB3 := Lib.hid (HB.out.trans hb3); clear hr hb3)
      go_roundg (i + (j - i))
      case measure => omega
      case rel =>
        refine ⟨i, j - i, P', Y2, Y1, X' ++ Q', by omega, rfl, by first | rw [e3] | go_num, by omega, by omega, by omega, him, ⟨HL.out.2, HL.out.1, HF.out.2.2.1, ?_, ?_⟩, ?_, HB3.out⟩
        · have := HF.out.2.2.2.1
          rw [← this]
          simp
        · have := HF.out.2.2.2.2
          rw [← this]
          simp only [List.length_append]
          omega
        · refine (show RowS base g cap _ _ from ?_)
          have := HR3.out
          simpa using this
    · subst heq
      have hne : ((i : Int) != (i : Int)) = false := by simp
      have hf := HF.out
      have hc := swapRange_at base g cap N (m - i) m i P' X' [] Y' Q' fv wr (by have := HRW.out; simpa using this) hbz hf.1 hf.2.1 (by have := hf.2.2.2.2; simpa using this) hlen (by have := hf.2.2.1; omega) (by have := hf.2.2.1; simp; omega)
      have e1 : ((m - i : Nat) : Int) = (m : Int) - (i : Int) := by omega
      rw [e1] at hc
      have HC := Lib.hid hc
      clear hf hc e1
      go_wp2_with (go_at_call 73; (with_reducible refine HC.out.mono ?_); rintro e w3 ⟨rfl, hr, hb3⟩; have HR3 := Lib.hid hr; have HB3 := Lib.hid (HB.out.trans hb3); clear hr hb3)
      go_end0
      rw [HQ.out]
      refine ⟨rfl, ?_, HB3.out⟩
      rw [← HF.out.2.2.2.1]
      have := HR3.out
      simpa using this
    · have hne : ((i : Int) != (j : Int)) = true := by simpa [bne_iff_ne] using (by omega : ¬ (i : Int) = (j : Int))
      have hgz : (j : Int) < (i : Int) := by omega
      obtain ⟨X1, X2, hX12, hl1, hl2⟩ : ∃ X1 X2, X' = X1 ++ X2 ∧ X1.length = j ∧ X2.length = i - j := ⟨X'.take j, X'.drop j, (List.take_append_drop _ _).symm, by have := HF.out.1; simp; omega, by have := HF.out.1; simp; omega⟩
      subst hX12
      have hf := HF.out
      have hc := swapRange_at base g cap N (m - i) m j P' X1 X2 Y' Q' fv wr (by have := HRW.out; simpa using this) hbz hl1 hf.2.1 (by have := hf.2.2.2.2; simpa using this) hlen (by have := hf.2.2.1; omega) (by have := hf.2.2.1; omega)
      have e1 : ((m - i : Nat) : Int) = (m : Int) - (i : Int) := by omega
      rw [e1] at hc
      have HC := Lib.hid hc
      have HL := Lib.hid (And.intro hl1 hl2)
      have e3 : (i : Int) - (j : Int) = ((i - j : Nat) : Int) := by omega
      clear hf hc e1 hl1 hl2
      go_wp2_with (go_at_call 73; (with_reducible refine HC.out.mono ?_); rintro e w3 ⟨rfl, hr, hb3⟩; have HR3 := Lib.hid hr; have HB3 := Lib.hid (HB.out.trans hb3); clear hr hb3)
      go_roundg ((i - j) + j)
      case measure => omega
      case rel =>
        refine ⟨i - j, j, P' ++ Y', X2, X1, Q', by omega, by first | rw [e3] | go_num, rfl, by omega, by omega, hmj, by omega, ⟨HL.out.2, HL.out.1, ?_, ?_, ?_⟩, ?_, HB3.out⟩
        · have h1 := HF.out.2.2.1
          have h2 := HF.out.2.1
          simp only [List.length_append]
          omega
        · have := HF.out.2.2.2.1
          rw [← this]
          simp
        · have := HF.out.2.2.2.2
          rw [← this]
          simp only [List.length_append]
          omega
        · refine (show RowS base g cap _ _ from ?_)
          have := HR3.out
          simpa using this
end Go.Proofs.Ytojeombljhmkaaa
