/- Object: must, within, number. -/
import Derived.Test.YtnflgikmljfakaaApp
import Derived.Test.YtnflgikmljfakaaSlices
import Derived.WalkLawsBesides
import Derived.Below
import Derived.Deep.Light
namespace Go.Proofs.Ytnflgikmljfakaa
open Go.RowKit
set_option linter.unusedVariables false
set_option linter.unusedSimpArgs false
abbrev yC (n : Int) : List Value := [.int .u8 n]
abbrev iC (n : Int) : List Value := [.int .i64 n]
theorem elY : ElT Try.prog 25 5 1 1 (.int .u8 0) := ElT.mk' Try.underlying25 (by kernel_rfl) rfl (by decide)
theorem y_one : ∀ x, ∀ u ∈ yC x, u.oneCell' = true := fun x u hu => by simp at hu; subst hu; rfl
theorem elI : ElT Try.prog 30 2 1 8 (.int .i64 0) := ElT.mk' Try.underlying30 (by kernel_rfl) rfl (by decide)
theorem i_one : ∀ x, ∀ u ∈ iC x, u.oneCell' = true := fun x u hu => by simp at hu; subst hu; rfl
abbrev stopP : List PanicEntry := [{ v := .iface 51 (.agg #[]), recovered := false }]
theorem must_yes (w : World) : Calls Try.prog 23 #[.bool true] w fun e w' => e = .returned (.tuple #[]) ∧ w = w' := by
  go_enter Try.func23, Try.ntmps23
  go_wp2
  go_end0
  exact ⟨rfl, rfl⟩
theorem must_no (w : World) : Calls Try.prog 23 #[.bool false] w fun e w' => e = .panicked stopP ∧ w = w' := by
  go_enter Try.func23, Try.ntmps23
  go_wp2
  exact ⟨rfl, rfl, rfl⟩
def wiB (n a b : Int) : Bool := decide (a ≤ n) && decide (n ≤ b)
theorem within_any (n a b : Int) (w : World) : Calls Try.prog 34 #[.int .i64 n, .int .i64 a, .int .i64 b] w fun e w' => e = .returned (.bool (wiB n a b)) ∧ w = w' := by
  by_cases h1 : a ≤ n
  · by_cases h2 : n ≤ b
    · go_enter Try.func34, Try.ntmps34
      go_wp2
      go_ret
      exact ⟨by simp [wiB, h1, h2], rfl⟩
    · go_enter Try.func34, Try.ntmps34
      go_wp2
      go_ret
      exact ⟨by simp [wiB, h1, h2], rfl⟩
  · go_enter Try.func34, Try.ntmps34
    go_wp2
    go_ret
    exact ⟨by simp [wiB, h1]; try omega, rfl⟩
theorem within64_any (n a b : Int) (w : World) : Calls Try.prog 33 #[.int .i64 n, .int .i64 a, .int .i64 b] w fun e w' => e = .returned (.bool (wiB n a b)) ∧ w = w' := by
  by_cases h1 : a ≤ n
  · by_cases h2 : n ≤ b
    · go_enter Try.func33, Try.ntmps33
      go_wp2
      go_ret
      exact ⟨by simp [wiB, h1, h2], rfl⟩
    · go_enter Try.func33, Try.ntmps33
      go_wp2
      go_ret
      exact ⟨by simp [wiB, h1, h2], rfl⟩
  · go_enter Try.func33, Try.ntmps33
    go_wp2
    go_ret
    exact ⟨by simp [wiB, h1]; try omega, rfl⟩
theorem own_alloc {w : World} {base e k n : Nat} {v : Value} {cs : List Value} (h : w.ownsRow base e k v n cs) (o : Obj) : (w.alloc o).ownsRow base e k v n cs := h.alloc o
theorem sat_oneY (w : World) (x : Int) {b : Nat} (hb : b = w.heap.size) : SAt yC 1 (w.alloc (.cells #[.int .u8 x] 5)) (.slice (some ⟨b, 0, none⟩) 1 1) [x] := by
  subst hb
  exact Or.inr ⟨_, 0, 1, rfl, Nat.le_refl _, by simp [maxLen], rowAt_new (enc := yC) (k := 1) (fun _ => rfl) w 5 [x] rfl rfl⟩
theorem own_form {w : World} {base e k n : Nat} {v : Value} {cs : List Value} (h : w.ownsRow base e k v n cs) : ∃ A c, v = .slice A n c := by
  rcases h.2 with ⟨rfl, rfl⟩ | ⟨g, cap, cur, rfl, _⟩
  · exact ⟨_, _, rfl⟩
  · exact ⟨_, _, rfl⟩
/-- Blocks of cells of other types are kept. -/
def KeptT (e : TypeId) (w W : World) : Prop := ∀ (b : Nat) (cur : Array Value) (t : TypeId) (fr : Nat × Nat), t ≠ e → w.heap[b]? = some (.cells cur t fr) → W.heap[b]? = some (.cells cur t fr)
theorem KeptT.refl (e : TypeId) (w : World) : KeptT e w w := fun _ _ _ _ _ h => h
theorem KeptT.trans {e : TypeId} {a b c : World} (h : KeptT e a b) (k : KeptT e b c) : KeptT e a c := fun i cur t fr ht hi => k i cur t fr ht (h i cur t fr ht hi)
theorem KeptT.ofBelow {e : TypeId} {w W : World} (h : Below w.heap.size w W) : KeptT e w W := fun i cur t fr _ hi => (h.block i (Array.getElem?_eq_some_iff.1 hi).1).trans hi
theorem KeptT.grown {w W : World} {base e k n : Nat} {v : Value} {cs : List Value} (h : w.ownsRow base e k v n cs) (hg : w.grownBy W v.ownBlock) : KeptT e w W := fun b cur t fr ht hb => by
  refine (hg.block b (Array.getElem?_eq_some_iff.1 hb).1 fun he => ?_).trans hb
  rcases h.2 with ⟨h2, -⟩ | ⟨g, cap, cur', h1, h2, h3, h4⟩
  · rw [h2] at he; exact absurd he (by simp [Value.ownBlock])
  · rw [h1] at he
    have he' : g = b := by simpa [Value.ownBlock] using he.symm
    subst he'
    rw [hb] at h3
    cases h3
    exact ht rfl
/-- So many bytes of a number, the higher ones first. -/
def numB (n : Int) : Nat → List Int
  | 0 => []
  | k + 1 => n / 2 ^ (8 * k) % 256 :: numB n k
theorem numB_len (n : Int) : ∀ k, (numB n k).length = k
  | 0 => rfl
  | k + 1 => by simp [numB, numB_len n k]
set_option maxRecDepth 100000 in
set_option maxHeartbeats 1000000 in
theorem number_any (base : Nat) (v : Value) (xs : List Int) (n : Int) (many : Nat) (w : World) (h : w.ownsRow base 5 1 v xs.length (xs.flatMap yC)) (hb : base ≤ w.heap.size) (hl : xs.length ≤ 1000000) (h0 : 0 ≤ n) (hn : n ≤ 9223372036854775807) (hm : many ≤ 8) :
    Calls Try.prog 20 #[v, .int .i64 n, .int .i64 many] w fun e w' => ∃ u, e = .returned u ∧ w'.ownsRow base 5 1 u (xs ++ numB n many).length ((xs ++ numB n many).flatMap yC) ∧ Below base w w' ∧ KeptT 5 w w' := by
  obtain ⟨Q, hQ⟩ : ∃ Q : Ending → World → Prop, Q = fun e w' => ∃ u, e = .returned u ∧ w'.ownsRow base 5 1 u (xs ++ numB n many).length ((xs ++ numB n many).flatMap yC) ∧ Below base w w' ∧ KeptT 5 w w' := ⟨_, rfl⟩
  rw [← hQ]
  have HQ := Lib.hid hQ
  have HO := Lib.hid h
  have HL := Lib.hid (And.intro hb hl)
  clear hQ h hb hl
  go_enter Try.func20, Try.ntmps20
  go_wp2_with fail
  go_loopg [0, 7] (many + 1) (fun gg s0 s7 wr => ∃ (k : Nat) (done : List Int), k ≤ many ∧ k ≤ gg ∧ (∃ i, s7 = .int .i64 i ∧ i = (k : Int) - 1) ∧ Aside (numB n many = done ++ numB n k) ∧ Aside (wr.ownsRow base 5 1 s0 (xs ++ done).length ((xs ++ done).flatMap yC)) ∧ Aside (Below base w wr) ∧ Aside (KeptT 5 w wr))
  case atStart => exact ⟨many, [], Nat.le_refl _, by omega, ⟨_, rfl, rfl⟩, rfl, (show w.ownsRow base 5 1 v (xs ++ ([] : List Int)).length ((xs ++ ([] : List Int)).flatMap yC) from by rw [List.append_nil]; exact HO.out), Below.refl _ _, KeptT.refl _ _⟩
  case round =>
    obtain ⟨k, done, hk, hgg, ⟨i, rfl, hi⟩, HD, HOW, HB, HKT⟩ := hrel
    obtain ⟨M, hM⟩ : ∃ M, M = (xs ++ done).length := ⟨_, rfl⟩
    have ho := HOW.out
    rw [← hM] at ho
    obtain ⟨A1, c1, rfl⟩ := own_form ho
    have HO2 := Lib.hid ho
    have HM := Lib.hid hM
    have HDL : Hid (done.length + k = many) := Lib.hid (by have h1 := congrArg List.length HD.out; simp [numB_len] at h1; omega)
    clear ho hM HOW
    cases k with
    | zero =>
      have hneg : ¬ 0 ≤ i := by omega
      clear hi
      go_wp2_with fail
      rw [HQ.out]
      refine ⟨_, rfl, ?_, HB.out, HKT.out⟩
      have h1 := HD.out
      simp only [numB, List.append_nil] at h1
      rw [h1, ← HM.out]
      exact HO2.out
    | succ k =>
      have hpos : 0 ≤ i := by omega
      have hi8 : i < 8 := by omega
      have HI : Hid (i = (k : Int)) := Lib.hid (by omega)
      clear hi
      obtain ⟨y, hy⟩ : ∃ y, y = n / 2 ^ (8 * i).toNat % 256 := ⟨_, rfl⟩
      have HY := Lib.hid hy
      go_wp2_with (at_builtin; rw [← hy]; refine wpList_app rfl (.tmp 14) (.tmp 20) rfl elY (fun _ => rfl) y_one (base := base) (v := .slice A1 M c1) (src := .slice (some ⟨wr.heap.size, 0, none⟩) 1 1) (xs := xs ++ done) (ys := [y]) (by go_simp) (by go_simp) HM.out (own_alloc HO2.out _) (sat_oneY wr y rfl) (by have := HL.out.1; have := HB.out.size; simp; omega) (by have := HL.out.2; have := HDL.out; have := HM.out; simp at this; simp [maxLen]; omega) (by have := HL.out.2; have := HDL.out; have := HM.out; simp at this; simp; omega) ?_; intro v9 w9 ho9 hg9; have HB9 : Hid (Below base w w9) := Lib.hid ((HB.out.alloc (by have := HL.out.1; have := HB.out.size; omega) _).trans (own_below (own_alloc HO2.out _) hg9 (by have := HL.out.1; have := HB.out.size; simp; omega))); have HO9 := Lib.hid ho9; have HK9 : Hid (KeptT 5 w w9) := Lib.hid ((HKT.out.trans (KeptT.ofBelow (bl_alloc (Below.refl _ _) _))).trans (KeptT.grown (own_alloc HO2.out _) hg9)); clear hg9 ho9)
      go_roundg k
      case measure => omega
      case rel =>
        refine ⟨k, done ++ [y], by omega, Nat.le_refl _, ⟨_, rfl, by have := HI.out; omega⟩, ?_, ?_, HB9.out, HK9.out⟩
        · have h1 := HD.out
          have h2 := HY.out
          rw [HI.out, show (8 * (k : Int)).toNat = 8 * k by omega] at h2
          show numB n many = (done ++ [y]) ++ numB n k
          rw [h1, h2]
          simp [numB]
        · show w9.ownsRow base 5 1 v9 (xs ++ (done ++ [y])).length ((xs ++ (done ++ [y])).flatMap yC)
          rw [← List.append_assoc]
          exact HO9.out
/-- The same, where the slice's length is a letter. -/
theorem number_own (base : Nat) (A : Option Addr) (M c : Nat) (xs : List Int) (n : Int) (many : Nat) (w : World) (hM : M = xs.length) (h : w.ownsRow base 5 1 (.slice A M c) M (xs.flatMap yC)) (hb : base ≤ w.heap.size) (hl : M ≤ 1000000) (h0 : 0 ≤ n) (hn : n ≤ 9223372036854775807) (hm : many ≤ 8) :
    Calls Try.prog 20 #[.slice A M c, .int .i64 n, .int .i64 many] w fun e w' => ∃ A' c', e = .returned (.slice A' (M + many) c') ∧ w'.ownsRow base 5 1 (.slice A' (M + many) c') (M + many) ((xs ++ numB n many).flatMap yC) ∧ Below base w w' ∧ KeptT 5 w w' := by
  refine (number_any base (.slice A M c) xs n many w (by rw [← hM]; exact h) hb (by omega) h0 hn hm).mono ?_
  rintro e w' ⟨u, rfl, ho, hb', hk⟩
  obtain ⟨A', c', rfl⟩ := own_form ho
  rw [List.length_append, numB_len, ← hM] at ho
  exact ⟨A', c', by rw [List.length_append, numB_len, ← hM], ho, hb', hk⟩
end Go.Proofs.Ytnflgikmljfakaa
