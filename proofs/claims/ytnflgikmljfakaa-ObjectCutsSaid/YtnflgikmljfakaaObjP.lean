/- Object: take, as objects$1 has it. -/
import Derived.Test.YtnflgikmljfakaaObjO
import Derived.Laws.BitsAllLaws
namespace Go.Proofs.Ytnflgikmljfakaa
open Go.RowKit Go.Shelf
set_option linter.unusedVariables false
set_option linter.unusedSimpArgs false
attribute [local go_sem] Oper.semAt_some
/-- The number of bytes. -/
def numOf : List Int → Int → Int
  | [], n => n
  | b :: bs, n => numOf bs (n * 256 + b)
theorem or_i64 (n b : Int) (h0 : 0 ≤ n) (h1 : n < 16777216) (h2 : 0 ≤ b) (h3 : b < 256) : bits .or .i64 (n * 256) b = n * 256 + b := by
  obtain ⟨N, rfl⟩ := Int.eq_ofNat_of_zero_le h0
  obtain ⟨B, rfl⟩ := Int.eq_ofNat_of_zero_le h2
  have e1 : ∀ a : Nat, a < 18446744073709551616 → (BitVec.ofInt 64 (a : Int)).toNat = a := fun a ha => by
    rw [BitVec.ofInt_natCast, BitVec.toNat_ofNat]; exact Nat.mod_eq_of_lt (by omega)
  have e2 : N * 256 ||| B = N * 256 + B := by
    have := Nat.shiftLeft_add_eq_or_of_lt (i := 8) (b := B) (by omega) N
    rw [Nat.shiftLeft_eq] at this
    exact this.symm
  rw [show ((N : Int) * 256) = ((N * 256 : Nat) : Int) by simp]
  show IntKind.i64.wrap ((BitVec.ofInt 64 ((N * 256 : Nat) : Int) ||| BitVec.ofInt 64 (B : Int)).toNat : Int) = _
  rw [BitVec.toNat_or, e1 _ (by omega), e1 _ (by omega), e2, IntWalk.i64_in _ (by omega)]
  simp
def BytesIn (bs : List Int) : Prop := ∀ x ∈ bs, 0 ≤ x ∧ x < 256
theorem numOf_snoc (n : Int) : ∀ (bs : List Int) (b : Int), numOf (bs ++ [b]) n = numOf bs n * 256 + b := by
  intro bs
  induction bs generalizing n with
  | nil => intro b; rfl
  | cons x bs ih => intro b; exact ih _ b
/-- Blocks but p's are kept. -/
structure But (p : Nat) (w W : World) : Prop where
  os : W.os = w.os
  tape : W.tape = w.tape
  output : W.output = w.output
  size : W.heap.size = w.heap.size
  block : ∀ k, k ≠ p → W.heap[k]? = w.heap[k]?
theorem But.refl (p : Nat) (w : World) : But p w w := ⟨rfl, rfl, rfl, rfl, fun _ _ => rfl⟩
theorem But.trans {p : Nat} {a b c : World} (h : But p a b) (k : But p b c) : But p a c := ⟨k.os.trans h.os, k.tape.trans h.tape, k.output.trans h.output, k.size.trans h.size, fun i hi => (k.block i hi).trans (h.block i hi)⟩
theorem But.set (p o : Nat) (w : World) (v : Value) : But p w (w.setCell ⟨p, o, none⟩ v) := ⟨by simp [World.setCell], by simp [World.setCell], by simp [World.setCell], by simp [World.setCell], fun k hk => by simp [World.setCell, Array.getElem?_modify, Ne.symm hk]⟩
theorem But.below {p B : Nat} {a b : World} (h : But p a b) (hp : B ≤ p) : Below B a b := ⟨h.os, h.tape, h.output, Nat.le_of_eq h.size.symm, fun i hi => h.block i (by omega)⟩
theorem But.cell {p : Nat} {a b : World} (h : But p a b) {q o : Nat} {v : Value} (hc : a.cell? ⟨q, o, none⟩ = some v) (h1 : q ≠ p) : b.cell? ⟨q, o, none⟩ = some v :=
  (World.cell?_of_block (w := a) (a := ⟨q, o, none⟩) (h.block q h1)).trans hc
theorem cells1 {w : World} {b : Nat} {v : Value} {t : TypeId} (h : w.heap[b]? = some (.cells #[v] t (0, 0))) : w.cell? ⟨b, 0, none⟩ = some v ∧ w.frozen? ⟨b, 0, none⟩ = false := by
  refine ⟨?_, ?_⟩ <;> simp [World.cell?, World.frozen?, h]
theorem set_one {w : World} {b : Nat} {v : Value} {t : TypeId} (h : w.heap[b]? = some (.cells #[v] t (0, 0))) (u : Value) : (w.setCell ⟨b, 0, none⟩ u).heap[b]? = some (.cells #[u] t (0, 0)) := by
  simp [World.setCell, Array.getElem?_modify, h]
set_option maxRecDepth 100000 in
theorem take_no' (pa pb : Nat) (at' many : Nat) (A : Option Addr) (c : Nat) (bs : List Int) (w : World) (ha : w.heap[pa]? = some (.cells #[.int .i64 at'] 3 (0, 0))) (hbv : w.cell? ⟨pb, 0, none⟩ = some (.slice A bs.length c)) (hbl : bs.length ≤ 4611686018427387904)
    (hle : at' ≤ bs.length) (hgt : bs.length < at' + many) (hm : many ≤ 4) : Calls Try.prog 37 #[.int .i64 many, .pointer (some ⟨pa, 0, none⟩), .pointer (some ⟨pb, 0, none⟩)] w fun e w' => e = .panicked stopP ∧ w = w' := by
  obtain ⟨a0, a1⟩ := cells1 ha
  have hd : decide ((at' : Int) + (many : Int) ≤ (bs.length : Int)) = false := decide_eq_false (by omega)
  clear hgt
  go_enter Try.func37, Try.ntmps37
  go_wp2_with (go_at_call 23; (try rw [hd]); refine (must_no _).mono ?_; rintro e w' ⟨rfl, rfl⟩)
  exact ⟨rfl, rfl, rfl⟩
set_option maxRecDepth 100000 in
set_option maxHeartbeats 1000000 in
theorem take_yes' (pa pb : Nat) (at' many : Nat) (A : Option Addr) (c : Nat) (bs : List Int) (w : World) (hab : pb ≠ pa) (ha : w.heap[pa]? = some (.cells #[.int .i64 at'] 3 (0, 0))) (hbv : w.cell? ⟨pb, 0, none⟩ = some (.slice A bs.length c)) (hs : SAt yC 1 w (.slice A bs.length c) bs) (hin : BytesIn bs) (hbl : bs.length ≤ 4611686018427387904)
    (hgt : at' + many ≤ bs.length) (hm : many ≤ 4) (hm0 : 0 < many) : Calls Try.prog 37 #[.int .i64 many, .pointer (some ⟨pa, 0, none⟩), .pointer (some ⟨pb, 0, none⟩)] w fun e w' =>
      e = .returned (.int .i64 (numOf ((bs.drop at').take many) 0)) ∧ w'.heap[pa]? = some (.cells #[.int .i64 ((at' + many : Nat) : Int)] 3 (0, 0)) ∧ But pa w w' := by
  obtain ⟨a0, a1⟩ := cells1 ha
  have hd : decide ((at' : Int) + (many : Int) ≤ (bs.length : Int)) = true := decide_eq_true (by omega)
  obtain ⟨b, o, hrow, rfl⟩ : ∃ b o, RowAt yC 1 w b o bs ∧ A = some ⟨b, o, none⟩ := by
    rcases hs with ⟨h1, h2⟩ | ⟨b, o, c', h1, _, _, h4⟩
    · subst h2; simp at hgt; omega
    · simp only [Value.slice.injEq] at h1
      exact ⟨b, o, h4, h1.1⟩
  obtain ⟨Q, hQ⟩ : ∃ Q : Ending → World → Prop, Q = fun e w' => e = .returned (.int .i64 (numOf ((bs.drop at').take many) 0)) ∧ w'.heap[pa]? = some (.cells #[.int .i64 ((at' + many : Nat) : Int)] 3 (0, 0)) ∧ But pa w w' := ⟨_, rfl⟩
  rw [← hQ]
  have HQ := Lib.hid hQ
  have HRW := Lib.hid hrow
  have HIN := Lib.hid hin
  have HGT := Lib.hid hgt
  have HA := Lib.hid ha
  have HBV := Lib.hid hbv
  have hal : at' ≤ bs.length := by omega
  clear hQ hrow hin hs ha hgt
  go_enter Try.func37, Try.ntmps37

  go_wp2_with (go_at_call 23; (try rw [hd]); refine (must_yes _).mono ?_; rintro e w' ⟨rfl, rfl⟩)
  go_loopg [5, 14] (many + 1) (fun gg s5 s14 wr => ∃ (k : Nat) (n : Int), k ≤ many ∧ many - k ≤ gg ∧ s14 = .int .i64 k ∧ s5 = .int .i64 n ∧ Aside (n = numOf ((bs.drop at').take k) 0) ∧ Aside (0 ≤ n ∧ n < 256 ^ k) ∧ Aside (wr.heap[pa]? = some (.cells #[.int .i64 ((at' + k : Nat) : Int)] 3 (0, 0))) ∧ Aside (But pa w wr))
  case atStart => exact ⟨0, 0, by omega, by omega, rfl, rfl, rfl, (show (0 : Int) ≤ 0 ∧ (0 : Int) < 256 ^ 0 from ⟨by decide, by decide⟩), HA.out, But.refl _ _⟩
  case round =>
    obtain ⟨k, n, hk, hgg, rfl, rfl, HN, HNB, HAK, HBT⟩ := hrel
    by_cases hlt : k < many
    · have hltz : (k : Int) < (many : Int) := by omega
      have hi : at' + k < bs.length := by have := HGT.out; omega
      obtain ⟨x0, x1⟩ := cells1 HAK.out
      have hbk := HBT.out.cell HBV.out hab
      have hgy : bs[at' + k]? = some bs[at' + k] := List.getElem?_eq_getElem hi
      generalize bs[at' + k] = y at hgy
      have hyr := HIN.out y (List.mem_of_getElem? hgy)
      have h9 := HRW.out (at' + k) y hgy 0 _ rfl
      rw [Nat.mul_one, Nat.add_zero] at h9
      have hne : b ≠ pa := fun he => by
        subst he
        unfold World.cell? at h9
        simp only [HA.out] at h9
        rcases hh : (o + (at' + k)) with _ | z
        · rw [hh] at h9; simp at h9
        · rw [hh] at h9; simp at h9
      have hcy := HBT.out.cell h9 hne
      have HGY := Lib.hid hgy
      have HKK := Lib.hid hk
      have hn4 : 0 ≤ n ∧ n < 16777216 := by
        have := HNB.out
        rcases k with _ | _ | _ | _ | k
        · simp at this; omega
        · simp at this; omega
        · simp at this; omega
        · simp at this; omega
        · omega
      obtain ⟨hn0, hn1⟩ := hn4
      obtain ⟨hy0, hy1⟩ := hyr
      have hor := or_i64 n y hn0 hn1 hy0 hy1
      have hiz : ((at' + k : Nat) : Int) < (bs.length : Int) := by omega
      obtain ⟨m, hm9⟩ : ∃ m, m = at' + k := ⟨_, rfl⟩
      rw [← hm9] at hcy x0 hi hiz
      have HM9 := Lib.hid hm9
      clear hm9 h9 hgy hk hne a0 a1
      go_wp2_with fail
      go_roundg (many - (k + 1))
      case measure => omega
      case rel =>
        have hpos : (256 : Int) ^ (k + 1) = 256 ^ k * 256 := Int.pow_succ ..
        have hnb := HNB.out
        refine ⟨k + 1, n * 256 + y, by omega, by omega, by go_num, rfl, ?_, ?_, ?_, HBT.out.trans (But.set _ _ _ _)⟩
        · show n * 256 + y = numOf ((bs.drop at').take (k + 1)) 0
          have h8 : (bs.drop at')[k]? = some y := by rw [List.getElem?_drop]; exact HGY.out
          rw [← take_snoc' h8, numOf_snoc, ← HN.out]
        · show 0 ≤ n * 256 + y ∧ n * 256 + y < 256 ^ (k + 1)
          rw [hpos]
          omega
        · have h7 := set_one HAK.out (.int .i64 ((m : Int) + 1))
          show _ = some (Obj.cells #[.int .i64 ((at' + (k + 1) : Nat) : Int)] 3 (0, 0))
          rw [h7, HM9.out]
          simp
          omega
    · obtain rfl : k = many := by omega
      have hltz : ¬ ((k : Nat) : Int) < ((k : Nat) : Int) := by omega
      clear hlt
      go_wp2_with fail
      rw [HQ.out]
      exact ⟨by rw [← HN.out], HAK.out, HBT.out⟩
theorem take_1 (pa pb : Nat) (at' : Nat) (A : Option Addr) (c : Nat) (bs : List Int) (w : World) (hab : pb ≠ pa) (ha : w.heap[pa]? = some (.cells #[.int .i64 at'] 3 (0, 0))) (hbv : w.cell? ⟨pb, 0, none⟩ = some (.slice A bs.length c)) (hs : SAt yC 1 w (.slice A bs.length c) bs) (hin : BytesIn bs) (hbl : bs.length ≤ 65536) (hgt : at' + 1 ≤ bs.length) :
    Calls Try.prog 37 #[.int .i64 1, .pointer (some ⟨pa, 0, none⟩), .pointer (some ⟨pb, 0, none⟩)] w fun e w' => e = .returned (.int .i64 (numOf ((bs.drop at').take 1) 0)) ∧ w'.heap[pa]? = some (.cells #[.int .i64 ((at' + 1 : Nat) : Int)] 3 (0, 0)) ∧ But pa w w' := take_yes' pa pb at' 1 A c bs w hab ha hbv hs hin (by omega) hgt (by omega) (by omega)
theorem take_1n (pa pb : Nat) (at' : Nat) (A : Option Addr) (c : Nat) (bs : List Int) (w : World) (ha : w.heap[pa]? = some (.cells #[.int .i64 at'] 3 (0, 0))) (hbv : w.cell? ⟨pb, 0, none⟩ = some (.slice A bs.length c)) (hbl : bs.length ≤ 65536) (hle : at' ≤ bs.length) (hgt : bs.length < at' + 1) :
    Calls Try.prog 37 #[.int .i64 1, .pointer (some ⟨pa, 0, none⟩), .pointer (some ⟨pb, 0, none⟩)] w fun e w' => e = .panicked stopP ∧ w = w' := take_no' pa pb at' 1 A c bs w ha hbv (by omega) hle hgt (by omega)
theorem take_2 (pa pb : Nat) (at' : Nat) (A : Option Addr) (c : Nat) (bs : List Int) (w : World) (hab : pb ≠ pa) (ha : w.heap[pa]? = some (.cells #[.int .i64 at'] 3 (0, 0))) (hbv : w.cell? ⟨pb, 0, none⟩ = some (.slice A bs.length c)) (hs : SAt yC 1 w (.slice A bs.length c) bs) (hin : BytesIn bs) (hbl : bs.length ≤ 65536) (hgt : at' + 2 ≤ bs.length) :
    Calls Try.prog 37 #[.int .i64 2, .pointer (some ⟨pa, 0, none⟩), .pointer (some ⟨pb, 0, none⟩)] w fun e w' => e = .returned (.int .i64 (numOf ((bs.drop at').take 2) 0)) ∧ w'.heap[pa]? = some (.cells #[.int .i64 ((at' + 2 : Nat) : Int)] 3 (0, 0)) ∧ But pa w w' := take_yes' pa pb at' 2 A c bs w hab ha hbv hs hin (by omega) hgt (by omega) (by omega)
theorem take_2n (pa pb : Nat) (at' : Nat) (A : Option Addr) (c : Nat) (bs : List Int) (w : World) (ha : w.heap[pa]? = some (.cells #[.int .i64 at'] 3 (0, 0))) (hbv : w.cell? ⟨pb, 0, none⟩ = some (.slice A bs.length c)) (hbl : bs.length ≤ 65536) (hle : at' ≤ bs.length) (hgt : bs.length < at' + 2) :
    Calls Try.prog 37 #[.int .i64 2, .pointer (some ⟨pa, 0, none⟩), .pointer (some ⟨pb, 0, none⟩)] w fun e w' => e = .panicked stopP ∧ w = w' := take_no' pa pb at' 2 A c bs w ha hbv (by omega) hle hgt (by omega)
theorem take_4 (pa pb : Nat) (at' : Nat) (A : Option Addr) (c : Nat) (bs : List Int) (w : World) (hab : pb ≠ pa) (ha : w.heap[pa]? = some (.cells #[.int .i64 at'] 3 (0, 0))) (hbv : w.cell? ⟨pb, 0, none⟩ = some (.slice A bs.length c)) (hs : SAt yC 1 w (.slice A bs.length c) bs) (hin : BytesIn bs) (hbl : bs.length ≤ 65536) (hgt : at' + 4 ≤ bs.length) :
    Calls Try.prog 37 #[.int .i64 4, .pointer (some ⟨pa, 0, none⟩), .pointer (some ⟨pb, 0, none⟩)] w fun e w' => e = .returned (.int .i64 (numOf ((bs.drop at').take 4) 0)) ∧ w'.heap[pa]? = some (.cells #[.int .i64 ((at' + 4 : Nat) : Int)] 3 (0, 0)) ∧ But pa w w' := take_yes' pa pb at' 4 A c bs w hab ha hbv hs hin (by omega) hgt (by omega) (by omega)
theorem take_4n (pa pb : Nat) (at' : Nat) (A : Option Addr) (c : Nat) (bs : List Int) (w : World) (ha : w.heap[pa]? = some (.cells #[.int .i64 at'] 3 (0, 0))) (hbv : w.cell? ⟨pb, 0, none⟩ = some (.slice A bs.length c)) (hbl : bs.length ≤ 65536) (hle : at' ≤ bs.length) (hgt : bs.length < at' + 4) :
    Calls Try.prog 37 #[.int .i64 4, .pointer (some ⟨pa, 0, none⟩), .pointer (some ⟨pb, 0, none⟩)] w fun e w' => e = .panicked stopP ∧ w = w' := take_no' pa pb at' 4 A c bs w ha hbv (by omega) hle hgt (by omega)
end Go.Proofs.Ytnflgikmljfakaa
