/- Object: the iterator over the objects of bytes. -/
import Derived.Test.YtnflgikmljfakaaObjQ
import Derived.Test.YtnflgikmljfakaaPanB
import Derived.WalkMore
namespace Go.Proofs.Ytnflgikmljfakaa
open Go.RowKit Go.Shelf
set_option linter.unusedVariables false
set_option linter.unusedSimpArgs false
attribute [local go_sem] Oper.semAt_some
/-- Blocks but p's are kept, new ones may come. -/
structure ButG (p : Nat) (w W : World) : Prop where
  os : W.os = w.os
  tape : W.tape = w.tape
  output : W.output = w.output
  size : w.heap.size ≤ W.heap.size
  block : ∀ k, k < w.heap.size → k ≠ p → W.heap[k]? = w.heap[k]?
theorem ButG.refl (p : Nat) (w : World) : ButG p w w := ⟨rfl, rfl, rfl, Nat.le_refl _, fun _ _ _ => rfl⟩
theorem ButG.trans {p : Nat} {a b c : World} (h : ButG p a b) (k : ButG p b c) : ButG p a c := ⟨k.os.trans h.os, k.tape.trans h.tape, k.output.trans h.output, Nat.le_trans h.size k.size, fun i hi hp => (k.block i (Nat.lt_of_lt_of_le hi h.size) hp).trans (h.block i hi hp)⟩
theorem ButG.ofBut {p : Nat} {a b : World} (h : But p a b) : ButG p a b := ⟨h.os, h.tape, h.output, Nat.le_of_eq h.size.symm, fun i _ hp => h.block i hp⟩
theorem ButG.ofBelow {p B : Nat} {a b : World} (h : Below B a b) (hB : a.heap.size ≤ B) : ButG p a b := ⟨h.os, h.tape, h.output, h.size, fun i hi _ => h.block i (by omega)⟩
/-- What the iterator does between two rounds: numbers' blocks alone are turned. -/
def StP (B : Nat) (A C : World) : Prop := Below B A C ∧ ∀ (i : Nat) (o : Obj), A.heap[i]? = some o → (∀ cur fr, o ≠ .cells cur 3 fr) → C.heap[i]? = some o
theorem ButG.st {p B : Nat} {w W : World} {v : Value} (h : ButG p w W) (hp : B ≤ p) (hB : B ≤ w.heap.size) (hv : w.heap[p]? = some (.cells #[v] 3 (0, 0))) : StP B w W := by
  refine ⟨⟨h.os, h.tape, h.output, h.size, fun i hi => h.block i (by omega) (by omega)⟩, fun i o ho hne => ?_⟩
  by_cases hi : i = p
  · subst hi
    rw [hv] at ho
    cases ho
    exact absurd rfl (hne _ _)
  · exact (h.block i (Array.getElem?_eq_some_iff.1 ho).1 hi).trans ho
theorem stB {B : Nat} {w W : World} (h : Below w.heap.size w W) (hB : B ≤ w.heap.size) : StP B w W := ⟨h.mono hB, fun i o ho _ => (h.block i (Array.getElem?_eq_some_iff.1 ho).1).trans ho⟩
/-- What a round keeps. -/
def KpP (B : Nat) (W W' : World) : Prop := (∀ i, i < B → W'.heap[i]? = W.heap[i]?) ∧ W.heap.size ≤ W'.heap.size ∧ ∀ (i : Nat) (cur : Array Value) (t : TypeId) (fr : Nat × Nat), t ≠ 32 → t ≠ 22 → W.heap[i]? = some (.cells cur t fr) → W'.heap[i]? = some (.cells cur t fr)
/-- Words in a block of their own. -/
def WsIn (w : World) (v : Value) (ws : List Int) : Prop := ∃ b, w.ownsRow b 2 1 v ws.length (ws.flatMap iC)
theorem WsIn.at {w : World} {v : Value} {ws : List Int} (h : WsIn w v ws) : WsAt w v ws := Or.inl (SAt.ofOwn (fun _ => rfl) rfl h.choose_spec)
theorem WsIn.kept {w W : World} {v : Value} {ws : List Int} (h : WsIn w v ws) (hk : ∀ (i : Nat) (cur : Array Value), w.heap[i]? = some (.cells cur 2 (0, 0)) → W.heap[i]? = some (.cells cur 2 (0, 0))) : WsIn W v ws := by
  obtain ⟨b, h1, h2⟩ := h
  refine ⟨b, h1, ?_⟩
  rcases h2 with h2 | ⟨g, cap, cur, e, hb, hg, hr⟩
  · exact Or.inl h2
  · exact Or.inr ⟨g, cap, cur, e, hb, hk g cur hg, hr⟩
/-- What holds of an object that is handed out. -/
def XP (bs : List Int) (pre : List Ob) (q : Ob) (W : World) : Prop := (∃ more, pre.map Ob.key ++ (q.key :: more) = (rd bs).1) ∧ WsIn W q.v q.ws
theorem num2_lt {bs : List Int} (h : BytesIn bs) (hl : bs.length ≤ 2) : 0 ≤ numOf bs 0 ∧ numOf bs 0 < 65536 := by
  rcases bs with _ | ⟨x, _ | ⟨y, _ | ⟨z, l⟩⟩⟩
  · simp [numOf]
  · have := h x (by simp)
    simp only [numOf]
    omega
  · have := h x (by simp)
    have := h y (by simp)
    simp only [numOf]
    omega
  · simp at hl
theorem sat_oneW (w : World) (x : Int) {b : Nat} (hb : b = w.heap.size) : SAt iC 1 (w.alloc (.cells #[.int .i64 x] 2)) (.slice (some ⟨b, 0, none⟩) 1 1) [x] := by
  subst hb
  exact Or.inr ⟨_, 0, 1, rfl, Nat.le_refl _, by simp [maxLen], rowAt_new (enc := iC) (k := 1) (fun _ => rfl) w 2 [x] rfl rfl⟩
theorem own_but {w W : World} {base e k n p : Nat} {v : Value} {cs : List Value} (h : w.ownsRow base e k v n cs) (hb : But p w W) (hp : p < base) : W.ownsRow base e k v n cs := by
  refine ⟨h.1, ?_⟩
  rcases h.2 with h2 | ⟨g, cap, cur, e1, hbs, hg, hr⟩
  · exact Or.inl h2
  · exact Or.inr ⟨g, cap, cur, e1, hbs, (hb.block g (by omega)).trans hg, hr⟩
set_option maxRecDepth 100000 in
set_option maxHeartbeats 2000000 in
theorem objs1_any (n : Nat) (hn : 1 ≤ n) (l pb B0 B1 : Nat) (A : Option Addr) (c : Nat) (bs : List Int) (J Jx : List Ob → World → Prop) (Jp : List PanicEntry → List Ob → World → Prop) (W : World) (hB0 : B0 ≤ W.heap.size) (hB1 : B1 ≤ W.heap.size)
    (hpb : W.heap[pb]? = some (.cells #[.slice A bs.length c] 25 (0, 0))) (hsat : ∀ X : World, (∀ i, i < B1 → X.heap[i]? = W.heap[i]?) → SAt yC 1 X (.slice A bs.length c) bs) (hin : BytesIn bs) (hlen : bs.length ≤ 65536) (hJ : Stays (StP B0) J)
    (hY : ∀ pre q W1, J pre W1 → XP bs pre q W1 → YieldAt Fence.wide (n - 1) Try.prog l #[q.val] W1 fun e W' => (e = .returned (.bool true) ∧ J (pre ++ [q]) W' ∧ KpP B1 W1 W') ∨ (e = .returned (.bool false) ∧ Jx (pre ++ [q]) W') ∨ (∃ ch, e = .panicked ch ∧ Jp ch (pre ++ [q]) W'))
    (h0 : J [] W) : CallsIn Fence.wide n Try.prog 36 #[.func (.yield l) #[] #[], .pointer (some ⟨pb, 0, none⟩)] W fun e W' =>
      ((∃ v, e = .returned v) ∧ ((∃ qs, (qs.map Ob.key = (rd bs).1 ∧ (rd bs).2 = true) ∧ J qs W') ∨ (∃ pre, Jx pre W'))) ∨ (∃ ch, e = .panicked ch ∧ ((∃ pre, (ch = stopP ∧ (rd bs).2 = false) ∧ J pre W') ∨ (∃ pre, Jp ch pre W'))) := by
  refine callsIn_wide.2 ?_
  obtain ⟨R, hR⟩ : ∃ R : Ending → World → Prop, R = fun e W' => ((∃ v, e = .returned v) ∧ ((∃ qs, (qs.map Ob.key = (rd bs).1 ∧ (rd bs).2 = true) ∧ J qs W') ∨ (∃ pre, Jx pre W'))) ∨ (∃ ch, e = .panicked ch ∧ ((∃ pre, (ch = stopP ∧ (rd bs).2 = false) ∧ J pre W') ∨ (∃ pre, Jp ch pre W'))) := ⟨_, rfl⟩
  rw [← hR]
  have HR := Lib.hid hR
  have HB0 := Lib.hid hB0
  have HB1 := Lib.hid hB1
  have HPB := Lib.hid hpb
  have HSAT := Lib.hid hsat
  have HIN := Lib.hid hin
  have HJS := Lib.hid hJ
  have HY := Lib.hid hY
  have HJ0 := Lib.hid h0
  have hpbl : pb < W.heap.size := (Array.getElem?_eq_some_iff.1 hpb).1
  clear hR hB0 hB1 hpb hsat hin hJ hY h0
  go_enter Try.func36, Try.ntmps36
  refine wp_scope_straight ?_
  go_upto_region 1 with fail
  obtain ⟨W0, hW0⟩ : ∃ W0, (W.alloc (.cells #[.int .i64 0] 3)) = W0 := ⟨_, rfl⟩
  have hpa : W0.heap[W.heap.size]? = some (.cells #[.int .i64 0] 3 (0, 0)) := by rw [← hW0]; exact new_block _ _
  have hb0 : Below W.heap.size W W0 := by rw [← hW0]; exact bl_alloc (Below.refl _ _) _
  have hz0 : W0.heap.size = W.heap.size + 1 := by rw [← hW0]; simp
  try rw [hW0]
  clear hW0
  have HPA := Lib.hid hpa
  have HZ0 := Lib.hid hz0
  have HBW := Lib.hid hb0
  clear hpa hz0 hb0
  go_wp2_with fail
  refine wp_label ?_
  go_wp2_with fail
  go_loopg [5] (bs.length + 1) (fun gg s5 wr => ∃ (m : Nat) (pre : List Ob), m ≤ bs.length ∧ bs.length - m ≤ gg ∧ Aside (wr.heap[W.heap.size]? = some (.cells #[.int .i64 (m : Nat)] 3 (0, 0))) ∧ Aside (wr.heap[pb]? = some (.cells #[.slice A bs.length c] 25 (0, 0))) ∧ Aside (∀ i, i < B1 → wr.heap[i]? = W.heap[i]?) ∧ Aside (J pre wr) ∧ Aside (pre.map Ob.key ++ (rd (bs.drop m)).1 = (rd bs).1 ∧ (rd (bs.drop m)).2 = (rd bs).2) ∧ Aside (W.heap.size < wr.heap.size))
  case atStart => exact ⟨0, [], by omega, by omega, HPA.out, (HBW.out.block pb (by omega)).trans HPB.out, fun i hi => HBW.out.block i (by have := HB1.out; omega), HJS.out [] _ _ HJ0.out (stB HBW.out HB0.out), ⟨rfl, rfl⟩, (show W.heap.size < W0.heap.size by have := HZ0.out; omega)⟩
  case round =>
    obtain ⟨m, pre, hm, hgg, HA, HP, HL, HJ, HRD, HZ⟩ := hrel
    obtain ⟨x0, x1⟩ := cells1 HA.out
    obtain ⟨y0, -⟩ := cells1 HP.out
    by_cases hlt : m < bs.length
    · have hltz : (m : Int) < (bs.length : Int) := by omega
      have hpane : pb ≠ W.heap.size := by omega
      have HDIE : Hid (∀ X, ButG W.heap.size wr X → stepO (bs.drop m) = none → R (.panicked stopP) X) := Lib.hid fun X hX hs => by
        rw [HR.out]
        have h9 := HRD.out.2
        rw [rd_none (by rw [List.length_drop]; omega) hs] at h9
        exact .inr ⟨stopP, rfl, .inl ⟨pre, ⟨rfl, h9.symm⟩, HJS.out pre wr X HJ.out (hX.st HB0.out (by have := HZ.out; have := HB0.out; omega) HA.out)⟩⟩
      by_cases h2 : m + 2 ≤ bs.length
      · obtain ⟨L, hL⟩ : ∃ L, L = numOf ((bs.drop m).take 2) 0 := ⟨_, rfl⟩
        have hL01 := num2_lt (bs := (bs.drop m).take 2) (fun x hx => HIN.out x (List.mem_of_mem_drop (List.mem_of_mem_take hx))) (by simp; omega)
        rw [← hL] at hL01
        obtain ⟨hL0, hL1⟩ := hL01
        have HLL := Lib.hid hL
        have HST : Hid (¬ (L % 4 = 0 ∧ 8 ≤ L ∧ L ≤ 260 ∧ L ≤ (bs.length - m : Nat)) → stepO (bs.drop m) = none) := Lib.hid fun hn => by
          unfold stepO
          rw [← HLL.out, List.length_drop, if_neg hn]
          simp
        clear hL
        go_upto_region 4 with (go_at_call 37; refine (take_2 W.heap.size pb m A c bs _ hpane HA.out y0 (HSAT.out _ HL.out) HIN.out (by omega) h2).mono ?_; rintro e w1 ⟨rfl, ha1, hbt1⟩; rw [← HLL.out])
        have HA1 := Lib.hid ha1
        have HG1 := Lib.hid (ButG.ofBut hbt1)
        clear ha1 hbt1 x0 x1 y0
        have HK : Hid (∀ X, ButG W.heap.size wr X → X.cell? ⟨pb, 0, none⟩ = some (.slice A bs.length c) ∧ SAt yC 1 X (.slice A bs.length c) bs) := Lib.hid fun X hX =>
          ⟨(cells1 ((hX.block pb (by have := HZ.out; omega) hpane).trans HP.out)).1, HSAT.out X fun i hi => (hX.block i (by have := HZ.out; have := HB1.out; omega) (by have := HB1.out; omega)).trans (HL.out i hi)⟩
        by_cases h4 : L % 4 = 0
        · have h4z : (L % 4 == 0) = true := by simp [h4]
          cases h5 : wiB (L / 4) 2 65 with
          | false =>
            go_wp2_with (first | (go_at_call 34; refine (within_any _ _ _ _).mono ?_; rintro e w' ⟨rfl, rfl⟩; (try rw [h5])) | (go_at_call 23; refine (must_no _).mono ?_; rintro e w' ⟨rfl, rfl⟩))
            refine ⟨rfl, HDIE.out _ HG1.out (HST.out ?_)⟩
            unfold wiB at h5
            simp only [Bool.and_eq_false_iff, decide_eq_false_iff_not] at h5
            omega
          | true =>
            have HKL : Hid (∃ K : Nat, L = 4 * ((K : Int) + 1) ∧ 1 ≤ K ∧ K ≤ 64) := Lib.hid (by
              unfold wiB at h5
              simp only [Bool.and_eq_true, decide_eq_true_eq] at h5
              exact ⟨(L / 4 - 1).toNat, by omega, by omega, by omega⟩)
            go_upto_region 5 with (first | (go_at_call 34; refine (within_any _ _ _ _).mono ?_; rintro e w' ⟨rfl, rfl⟩; (try rw [h5])) | (go_at_call 23; refine (must_yes _).mono ?_; rintro e w' ⟨rfl, rfl⟩))
            by_cases h6 : m + 4 ≤ bs.length
            · obtain ⟨u, hu⟩ : ∃ u, u = numOf ((bs.drop (m + 2)).take 1) 0 := ⟨_, rfl⟩
              obtain ⟨t, ht⟩ : ∃ t, t = numOf ((bs.drop (m + 3)).take 1) 0 := ⟨_, rfl⟩
              have HU := Lib.hid hu
              have HT := Lib.hid ht
              clear hu ht
              go_upto_region 6 with (first | (go_at_call 37; refine (take_1 W.heap.size pb (m + 2) A c bs _ hpane HA1.out (HK.out _ HG1.out).1 (HK.out _ HG1.out).2 HIN.out hlen (by omega)).mono ?_; rintro e w2 ⟨rfl, ha2, hbt2⟩; rw [← HU.out]; have HA2 := Lib.hid ha2; have HG2 := Lib.hid (HG1.out.trans (ButG.ofBut hbt2)); clear ha2 hbt2) | (go_at_call 37; refine (take_1 W.heap.size pb (m + 3) A c bs _ hpane HA2.out (HK.out _ HG2.out).1 (HK.out _ HG2.out).2 HIN.out hlen h6).mono ?_; rintro e w3 ⟨rfl, ha3, hbt3⟩; rw [← HT.out]; have HA3 := Lib.hid ha3; have HG3 := Lib.hid (HG2.out.trans (ButG.ofBut hbt3)); clear ha3 hbt3))
              obtain ⟨K, hK, hK1, hK64⟩ := HKL.out
              have hw6 : (w3.alloc (.cells #[.int .i64 u, .int .i64 t, .slice none 0 0] 32)).heap[w3.heap.size]? = some (.cells #[.int .i64 u, .int .i64 t, .slice none 0 0] 32 (0, 0)) := new_block _ _
              have hb6 : Below w3.heap.size w3 (w3.alloc (.cells #[.int .i64 u, .int .i64 t, .slice none 0 0] 32)) := bl_alloc (Below.refl _ _) _
              have hz6 : (w3.alloc (.cells #[.int .i64 u, .int .i64 t, .slice none 0 0] 32)).heap.size = w3.heap.size + 1 := by simp
              generalize (w3.alloc (.cells #[.int .i64 u, .int .i64 t, .slice none 0 0] 32)) = w4 at hw6 hb6 hz6 ⊢
              obtain ⟨g6, hg6⟩ : ∃ g6, g6 = w3.heap.size := ⟨_, rfl⟩
              rw [← hg6] at hw6 hb6 hz6 ⊢
              have hgw : wr.heap.size ≤ g6 := by rw [hg6]; exact HG3.out.size
              have HA4 : Hid (w4.heap[W.heap.size]? = some (.cells #[.int .i64 ((m + 4 : Nat) : Int)] 3 (0, 0))) := Lib.hid ((hb6.block _ (by have := HZ.out; omega)).trans HA3.out)
              have HG4 : Hid (ButG W.heap.size wr w4) := Lib.hid (HG3.out.trans (ButG.ofBelow hb6 (by omega)))
              have HW6 := Lib.hid hw6
              have HZ6 := Lib.hid (And.intro hz6 hgw)
              have hq4 : L / 4 = (K : Int) + 1 := by omega
              have HLK := Lib.hid hK
              clear hw6 hb6 hz6 hgw hg6 hK h4 h4z h5 h2 HKL HA1 HG1 HA2 HG2 HA3 HG3
              go_wp2_with fail
              clear hq4
              obtain ⟨bw, hbw⟩ : ∃ bw, bw = bs.drop (m + 4) := ⟨_, rfl⟩
              have HBW4 := Lib.hid hbw
              clear hbw
              obtain ⟨wa, hwa⟩ : ∃ wa, wa = wr := ⟨_, rfl⟩
              subst hwa
              go_loopg [31] (K + 1) (fun gg s31 wr => ∃ j : Nat, j ≤ K ∧ K - j ≤ gg ∧ s31 = .int .i64 j ∧ Aside (m + 4 + 4 * j ≤ bs.length) ∧ Aside (wr.heap[W.heap.size]? = some (.cells #[.int .i64 ((m + 4 + 4 * j : Nat) : Int)] 3 (0, 0))) ∧ Aside (∃ v, wr.heap[g6]? = some (.cells #[.int .i64 u, .int .i64 t, v] 32 (0, 0)) ∧ wr.ownsRow (g6 + 1) 2 1 v (wordsOf j bw).length ((wordsOf j bw).flatMap iC)) ∧ Aside (ButG W.heap.size wa wr) ∧ Aside (g6 + 1 ≤ wr.heap.size))
              case atStart => exact ⟨0, by omega, by omega, rfl, h6, HA4.out, ⟨_, HW6.out, World.ownsRow_nil _ _ _ _⟩, HG4.out, (show g6 + 1 ≤ w4.heap.size by have := HZ6.out; omega)⟩
              case round =>
                obtain ⟨j, hj, hgj, rfl, HM4, HAJ, HOJ, HGJ, HZJ⟩ := hrel
                obtain ⟨v, hv6, ho6⟩ := HOJ.out
                obtain ⟨Av, cv, hvv⟩ := own_form ho6
                obtain ⟨N, hN⟩ : ∃ N, N = (wordsOf j bw).length := ⟨_, rfl⟩
                rw [← hN] at hvv ho6
                subst hvv
                have HN := Lib.hid hN
                have HN2 : Hid (N = j) := Lib.hid (by rw [hN, wordsOf_len])
                have HO6 := Lib.hid ho6
                have HV6 := Lib.hid hv6
                clear hN ho6 hv6 HOJ
                by_cases hjl : j < K
                · have hjz : (j : Int) < (K : Int) := by omega
                  obtain ⟨⟨e0, e1, e2⟩, e3, e4, e5⟩ := cells3 HV6.out
                  by_cases h8 : m + 4 + 4 * j + 4 ≤ bs.length
                  · go_upto_region 8 with fail
                    have HS0 := Lib.hid (show ∀ X : World, X.heap[g6]? = wr.heap[g6]? → (fun W' : World => W'.cell? ⟨g6, 2, none⟩ = some (.slice Av N cv)) X from fun X hX => (cells3 (hX.trans HV6.out)).1.2.2)
                    refine wp_region_till 7 (S := (fun W' : World => W'.cell? ⟨g6, 2, none⟩ = some (.slice Av N cv))) (by kernel_rfl) (HS0.out _ rfl) (fun hHeld => ?_)
                    refine till_yes (i := 0) (v := ?_) rfl (by kernel_rfl) (by kernel_rfl) (by kernel_rfl) (by kernel_rfl) (by kernel_rfl) (fun _ _ _ h => h) (by kernel_rfl) (by assumption) ?_ ?_
                    rotate_left 1
                    · (intro w hSw; (try dsimp only at hSw); go_simp; try with_reducible rfl)
                    try simp only [Act.put, List.setIfInBounds_toArray, List.set_cons_zero, List.set_cons_succ]

                    refine till_yes (i := 1) (v := ?_) rfl (by kernel_rfl) (by kernel_rfl) (by kernel_rfl) (by kernel_rfl) (by kernel_rfl) (fun _ _ _ h => h) (by kernel_rfl) (by assumption) ?_ ?_
                    rotate_left 1
                    · (intro w hSw; (try dsimp only at hSw); go_simp; try with_reducible rfl)
                    try simp only [Act.put, List.setIfInBounds_toArray, List.set_cons_zero, List.set_cons_succ]

                    refine till_yes (i := 2) (v := ?_) rfl (by kernel_rfl) (by kernel_rfl) (by kernel_rfl) (by kernel_rfl) (by kernel_rfl) (fun _ _ _ h => h) (by kernel_rfl) (by assumption) ?_ ?_
                    rotate_left 1
                    · (intro w hSw; (try dsimp only at hSw); go_simp; try with_reducible rfl)
                    try simp only [Act.put, List.setIfInBounds_toArray, List.set_cons_zero, List.set_cons_succ]

                    refine till_one (i := 3) rfl (by kernel_rfl) (fun K' hK => ?_)
                    go_simp
                    have hgd : ButG W.heap.size wa wr.drew := ⟨HGJ.out.os, HGJ.out.tape, HGJ.out.output, HGJ.out.size, HGJ.out.block⟩
                    refine (take_4 W.heap.size pb (m + 4 + 4 * j) A c bs wr.drew hpane HAJ.out (HK.out _ hgd).1 (HK.out _ hgd).2 HIN.out hlen h8).mono ?_
                    obtain ⟨y, hy⟩ : ∃ y, y = numOf ((bs.drop (m + 4 + 4 * j)).take 4) 0 := ⟨_, rfl⟩
                    rintro e w5 ⟨he, ha5, hbt5⟩
                    rw [← hy] at he
                    subst he
                    have HYY := Lib.hid hy
                    clear hy
                    have hgd5 := hgd.trans (ButG.ofBut hbt5)
                    clear hgd
                    go_simp
                    have hgp : g6 ≠ W.heap.size := by have := HZ6.out; have := HZ.out; omega
                    have hb5 : w5.heap[g6]? = wr.heap[g6]? := hbt5.block g6 hgp
                    refine hK.out _ _ (HS0.out _ hb5) (fun hHeld2 => ?_)
                    clear hK K' hHeld
                    try simp only [Act.put, List.setIfInBounds_toArray, List.set_cons_zero, List.set_cons_succ]
                    have hz5 : g6 + 1 ≤ w5.heap.size := by have := hbt5.size; rw [World.size_drew] at this; have := HZJ.out; omega
                    have ho5 : w5.ownsRow (g6 + 1) 2 1 (.slice Av N cv) N ((wordsOf j bw).flatMap iC) := own_but (w := wr.drew) HO6.out hbt5 (by have := HZ6.out; have := HZ.out; omega)
                    refine till_one (i := 4) rfl (by kernel_rfl) (fun K' hK => ?_)
                    go_simp
                    refine hK.out _ _ (HS0.out _ ((bl_alloc (Below.refl w5.heap.size w5) _).block g6 (by omega) |>.trans hb5)) (fun hHeld3 => ?_)
                    clear hK K' hHeld2
                    try simp only [Act.put, List.setIfInBounds_toArray, List.set_cons_zero, List.set_cons_succ]
                    refine till_one (i := 5) rfl (by kernel_rfl) (fun K' hK => ?_)
                    refine step_app rfl (.tmp 34) (.tmp 37) rfl elI (fun _ => rfl) i_one (base := g6 + 1) (v := .slice Av N cv) (src := .slice (some ⟨w5.heap.size, 0, none⟩) 1 1) (xs := wordsOf j bw) (ys := [y]) (by go_simp) (by go_simp) HN.out (own_alloc ho5 _) (sat_oneW w5 y rfl) (by simp; omega) ?b63 ?bby ?_
                    case b63 => rw [wordsOf_len]; simp [maxLen]; omega
                    case bby => rw [wordsOf_len]; simp; omega
                    intro v7 w7 ho7 hb7
                    obtain ⟨A7, c7, rfl⟩ := own_form ho7
                    have hyw : y = word4 bw j := by rw [HYY.out, HBW4.out]; unfold word4; rw [List.drop_drop]
                    rw [hyw, ← wordsOf_succ] at ho7
                    have hln : (wordsOf (j + 1) bw).length = N + 1 := by rw [wordsOf_len, HN2.out]
                    have hln2 : (wordsOf j bw ++ [y]).length = N + 1 := by rw [List.length_append, ← HN.out]; rfl
                    rw [hln] at ho7
                    rw [hln2]
                    have HO7 := Lib.hid ho7
                    have hb7' : Below (g6 + 1) w5 w7 := (((Below.refl (g6 + 1) w5).alloc hz5 _)).trans hb7
                    have hg7 : w7.heap[g6]? = some (.cells #[.int .i64 u, .int .i64 t, .slice Av N cv] 32 (0, 0)) := (hb7'.block g6 (by omega)).trans (hb5.trans HV6.out)
                    have hgd7 : ButG W.heap.size wa w7 := ⟨hb7'.os.trans hgd5.os, hb7'.tape.trans hgd5.tape, hb7'.output.trans hgd5.output, Nat.le_trans hgd5.size hb7'.size, fun i hi hne => (hb7'.block i (by have := HZ6.out; omega)).trans (hgd5.block i hi hne)⟩
                    have hz7 : g6 + 1 ≤ w7.heap.size := Nat.le_trans hz5 hb7'.size
                    have ha7 : w7.heap[W.heap.size]? = some (.cells #[.int .i64 ((m + 4 + 4 * j + 4 : Nat) : Int)] 3 (0, 0)) := (hb7'.block _ (by have := HZ6.out; have := HZ.out; omega)).trans ha5
                    refine hK.out _ _ (HS0.out _ (hg7.trans HV6.out.symm)) (fun hHeld4 => ?_)
                    clear hK K' hHeld3
                    try simp only [Act.put, List.setIfInBounds_toArray, List.set_cons_zero, List.set_cons_succ]
                    refine till_yes (i := 6) (v := ?_) rfl (by kernel_rfl) (by kernel_rfl) (by kernel_rfl) (by kernel_rfl) (by kernel_rfl) (fun _ _ _ h => h) (by kernel_rfl) (by assumption) ?_ ?_
                    rotate_left 1
                    · (intro w hSw; (try dsimp only at hSw); go_simp; try with_reducible rfl)
                    try simp only [Act.put, List.setIfInBounds_toArray, List.set_cons_zero, List.set_cons_succ]

                    obtain ⟨⟨f0, f1, f2⟩, f3, f4, f5⟩ := cells3 hg7
                    refine till_late (i := 7) rfl (by decide) (by kernel_rfl) (fun K' hK => ?_)
                    go_simp
                    refine hK.out _ _ ?_
                    clear hK K'
                    try simp only [Act.put, List.setIfInBounds_toArray, List.set_cons_zero, List.set_cons_succ]
                    refine till_done (by kernel_rfl) ?_ _
                    have hg8 : (w7.setCell ⟨g6, 2, none⟩ (.slice A7 (N + 1) c7)).heap[g6]? = some (.cells #[.int .i64 u, .int .i64 t, .slice A7 (N + 1) c7] 32 (0, 0)) := by simp [World.setCell, Array.getElem?_modify, hg7]
                    have hbt8 := But.set g6 2 w7 (.slice A7 (N + 1) c7)
                    have ho8 := own_but HO7.out hbt8 (by omega)
                    generalize (w7.setCell ⟨g6, 2, none⟩ (.slice A7 (N + 1) c7)) = w8 at hg8 hbt8 ho8 ⊢
                    have HG8 := Lib.hid hg8
                    have HO8 := Lib.hid ho8
                    have hne6 : W.heap.size ≠ g6 := by have := HZ6.out; have := HZ.out; omega
                    have HA8 : Hid (w8.heap[W.heap.size]? = some (.cells #[.int .i64 ((m + 4 + 4 * j + 4 : Nat) : Int)] 3 (0, 0))) := Lib.hid ((hbt8.block _ hne6).trans ha7)
                    have HGD8 : Hid (ButG W.heap.size wa w8) := Lib.hid ⟨hbt8.os.trans hgd7.os, hbt8.tape.trans hgd7.tape, hbt8.output.trans hgd7.output, by rw [hbt8.size]; exact hgd7.size, fun i hi hne => (hbt8.block i (by have := HZ6.out; omega)).trans (hgd7.block i hi hne)⟩
                    have HZ8 : Hid (g6 + 1 ≤ w8.heap.size) := Lib.hid (by rw [hbt8.size]; exact hz7)
                    clear hg8 ho8 hbt8 hgd7 ha7 hgd5 hb7' hg7 hb7 ho7 ho5 hb5 hbt5 ha5 hyw hHeld4 f0 f1 f2 f3 f4 f5 e0 e1 e2 e3 e4 e5 hln hln2 hz5 hz7
                    go_wp2_with fail
                    go_roundg (K - (j + 1))
                    case measure => omega
                    case rel =>
                      refine ⟨j + 1, by omega, by omega, by go_num, (show m + 4 + 4 * (j + 1) ≤ bs.length by omega), ?_, ⟨_, HG8.out, ?_⟩, HGD8.out, HZ8.out⟩
                      · have h1 := HA8.out
                        rw [show m + 4 + 4 * j + 4 = m + 4 + 4 * (j + 1) by omega] at h1
                        exact h1
                      · have h1 := HO8.out
                        rw [wordsOf_len]
                        rw [HN2.out] at h1 ⊢
                        exact h1
                  · go_upto_region 8 with fail
                    have HS0 := Lib.hid (show ∀ X : World, X.heap[g6]? = wr.heap[g6]? → (fun W' : World => W'.cell? ⟨g6, 2, none⟩ = some (.slice Av N cv)) X from fun X hX => (cells3 (hX.trans HV6.out)).1.2.2)
                    refine wp_region_till 7 (S := (fun W' : World => W'.cell? ⟨g6, 2, none⟩ = some (.slice Av N cv))) (by kernel_rfl) (HS0.out _ rfl) (fun hHeld => ?_)
                    refine till_yes (i := 0) (v := ?_) rfl (by kernel_rfl) (by kernel_rfl) (by kernel_rfl) (by kernel_rfl) (by kernel_rfl) (fun _ _ _ h => h) (by kernel_rfl) (by assumption) ?_ ?_
                    rotate_left 1
                    · (intro w hSw; (try dsimp only at hSw); go_simp; try with_reducible rfl)
                    try simp only [Act.put, List.setIfInBounds_toArray, List.set_cons_zero, List.set_cons_succ]

                    refine till_yes (i := 1) (v := ?_) rfl (by kernel_rfl) (by kernel_rfl) (by kernel_rfl) (by kernel_rfl) (by kernel_rfl) (fun _ _ _ h => h) (by kernel_rfl) (by assumption) ?_ ?_
                    rotate_left 1
                    · (intro w hSw; (try dsimp only at hSw); go_simp; try with_reducible rfl)
                    try simp only [Act.put, List.setIfInBounds_toArray, List.set_cons_zero, List.set_cons_succ]

                    refine till_yes (i := 2) (v := ?_) rfl (by kernel_rfl) (by kernel_rfl) (by kernel_rfl) (by kernel_rfl) (by kernel_rfl) (fun _ _ _ h => h) (by kernel_rfl) (by assumption) ?_ ?_
                    rotate_left 1
                    · (intro w hSw; (try dsimp only at hSw); go_simp; try with_reducible rfl)
                    try simp only [Act.put, List.setIfInBounds_toArray, List.set_cons_zero, List.set_cons_succ]

                    refine till_one (i := 3) rfl (by kernel_rfl) (fun K' hK => ?_)
                    go_simp
                    have hgd : ButG W.heap.size wa wr.drew := ⟨HGJ.out.os, HGJ.out.tape, HGJ.out.output, HGJ.out.size, HGJ.out.block⟩
                    have hnone : stepO (bs.drop m) = none := HST.out (by have := HLK.out; omega)
                    have HNO := Lib.hid hnone
                    clear hnone
                    refine (take_4n W.heap.size pb (m + 4 + 4 * j) A c bs wr.drew HAJ.out (HK.out _ hgd).1 hlen HM4.out (by omega)).mono ?_
                    rintro e w5 ⟨rfl, rfl⟩
                    exact ⟨rfl, HDIE.out _ hgd HNO.out⟩
                · obtain rfl : j = K := by omega
                  have hjz : ¬ ((j : Nat) : Int) < ((j : Nat) : Int) := by omega
                  obtain ⟨⟨e0, e1, e2⟩, -⟩ := cells3 HV6.out
                  obtain ⟨q, hq⟩ : ∃ q : Ob, q = ⟨.slice Av N cv, u, t, wordsOf j bw⟩ := ⟨_, rfl⟩
                  have hmk : m + 4 + 4 * j ≤ bs.length := HM4.out
                  have hst : stepO (bs.drop m) = some (q.key, bs.drop (m + 4 + 4 * j)) := by
                    have h1 := HLK.out
                    unfold stepO
                    rw [if_neg (by rw [List.length_drop]; omega), ← HLL.out, if_pos ⟨by omega, by omega, by omega, by rw [List.length_drop]; omega⟩, List.drop_drop, List.drop_drop, List.drop_drop, List.drop_drop, ← HU.out, ← HT.out, ← HBW4.out, show L.toNat / 4 - 1 = j by omega, show m + L.toNat = m + 4 + 4 * j by omega, hq]
                    rfl
                  have hrd := rd_some (by rw [List.length_drop]; omega) hst
                  have hXP : XP bs pre q wr := by
                    refine ⟨⟨(rd (bs.drop (m + 4 + 4 * j))).1, ?_⟩, g6 + 1, ?_⟩
                    · have h9 := HRD.out.1
                      rw [hrd] at h9
                      exact h9
                    · rw [hq]
                      have h9 := HO6.out
                      rw [HN.out] at h9
                      rw [HN.out]
                      exact h9
                  have hJw : J pre wr := HJS.out pre wa wr HJ.out (HGJ.out.st HB0.out (by have := HZ.out; have := HB0.out; omega) HA.out)
                  obtain ⟨fn, tmps, assign, body, hy, hYR⟩ := HY.out pre q wr hJw hXP
                  have HRD2 : Hid ((pre ++ [q]).map Ob.key ++ (rd (bs.drop (m + 4 + 4 * j))).1 = (rd bs).1 ∧ (rd (bs.drop (m + 4 + 4 * j))).2 = (rd bs).2) := Lib.hid (by
                    have h9 := HRD.out
                    rw [hrd] at h9
                    exact ⟨by rw [← h9.1]; simp, h9.2⟩)
                  have hqv : q.val = .agg #[.int .i64 u, .int .i64 t, .slice Av N cv] := by rw [hq]
                  rw [hqv] at hy
                  have HQQ := Lib.hid hq
                  clear hq hst hrd hXP hJw hqv
                  go_upto_region 10 with fail
                  refine (wpIn_wide (n := n)).1 ?_
                  gi_wp2
                  refine hYR.mono ?_
                  rintro e W3 (⟨rfl, hJ3, hk3⟩ | ⟨rfl, hJx3⟩ | ⟨ch, rfl, hp3⟩)
                  · have HJ3 := Lib.hid hJ3
                    have HA9 : Hid (W3.heap[W.heap.size]? = some (.cells #[.int .i64 ((m + 4 + 4 * j : Nat) : Int)] 3 (0, 0))) := Lib.hid (hk3.2.2 _ _ _ _ (by decide) (by decide) HAJ.out)
                    have HP9 : Hid (W3.heap[pb]? = some (.cells #[.slice A bs.length c] 25 (0, 0))) := Lib.hid (hk3.2.2 _ _ _ _ (by decide) (by decide) ((HGJ.out.block pb (by have := HZ.out; omega) hpane).trans HP.out))
                    have HL9 : Hid (∀ i, i < B1 → W3.heap[i]? = W.heap[i]?) := Lib.hid fun i hi => (hk3.1 i hi).trans ((HGJ.out.block i (by have := HZ.out; have := HB1.out; omega) (by have := HB1.out; omega)).trans (HL.out i hi))
                    have HZ9 : Hid (W.heap.size < W3.heap.size) := Lib.hid (by have := hk3.2.1; have := HGJ.out.size; have := HZ.out; omega)
                    clear hJ3 hk3 hy hYR e0 e1 e2
                    gi_wp2
                    go_wp2_with fail
                    go_roundg (bs.length - (m + 4 + 4 * j))
                    case measure => omega
                    case rel => exact ⟨m + 4 + 4 * j, pre ++ [q], hmk, Nat.le_refl _, HA9.out, HP9.out, HL9.out, HJ3.out, HRD2.out, HZ9.out⟩
                  · have HJ3 := Lib.hid hJx3
                    clear hJx3 hy hYR e0 e1 e2
                    gi_wp2
                    go_wp2_with fail
                    go_end0
                    rw [HR.out]
                    exact .inl ⟨⟨_, rfl⟩, .inr ⟨_, HJ3.out⟩⟩
                  · have hfin : R (.panicked ch) W3 := by
                      rw [HR.out]
                      exact .inr ⟨ch, rfl, .inr ⟨_, hp3⟩⟩
                    exact ⟨rfl, hfin⟩
            · have hnone : stepO (bs.drop m) = none := HST.out (by obtain ⟨K, hK, hK1, -⟩ := HKL.out; omega)
              have HNO := Lib.hid hnone
              clear hnone
              by_cases h7 : m + 3 ≤ bs.length
              · go_wp2_with (first | (go_at_call 37; refine (take_1 W.heap.size pb (m + 2) A c bs _ hpane HA1.out (HK.out _ HG1.out).1 (HK.out _ HG1.out).2 HIN.out hlen h7).mono ?_; rintro e w2 ⟨rfl, ha2, hbt2⟩; have HA2 := Lib.hid ha2; have HG2 := Lib.hid (HG1.out.trans (ButG.ofBut hbt2)); clear ha2 hbt2) | (go_at_call 37; refine (take_1n W.heap.size pb (m + 3) A c bs _ HA2.out (HK.out _ HG2.out).1 hlen h7 (by omega)).mono ?_; rintro e w3 ⟨rfl, rfl⟩))
                exact ⟨rfl, HDIE.out _ HG2.out HNO.out⟩
              · go_wp2_with (go_at_call 37; refine (take_1n W.heap.size pb (m + 2) A c bs _ HA1.out (HK.out _ HG1.out).1 hlen h2 (by omega)).mono ?_; rintro e w2 ⟨rfl, rfl⟩)
                exact ⟨rfl, HDIE.out _ HG1.out HNO.out⟩
        · have h4z : (L % 4 == 0) = false := by simp [h4]
          go_wp2_with (go_at_call 23; refine (must_no _).mono ?_; rintro e w' ⟨rfl, rfl⟩)
          exact ⟨rfl, HDIE.out _ HG1.out (HST.out fun h => h4 h.1)⟩
      · go_wp2_with (go_at_call 37; refine (take_2n W.heap.size pb m A c bs _ HA.out y0 (by omega) (by omega) (by omega)).mono ?_; rintro e w1 ⟨rfl, rfl⟩)
        refine ⟨rfl, HDIE.out _ (ButG.refl _ _) ?_⟩
        unfold stepO
        rw [if_pos (by rw [List.length_drop]; omega)]
    · obtain rfl : m = bs.length := by omega
      have hltz : ¬ ((bs.length : Nat) : Int) < ((bs.length : Nat) : Int) := by omega
      clear hlt
      go_wp2_with fail
      go_end0
      rw [HR.out]
      have h9 := HRD.out
      rw [List.drop_length, rd_nil] at h9
      exact .inl ⟨⟨_, rfl⟩, .inl ⟨pre, ⟨by simpa using h9.1, h9.2.symm⟩, HJ.out⟩⟩
theorem objs_any (A : Option Addr) (k c : Nat) (w : World) : Calls Try.prog 22 #[.slice A k c] w fun e w' => e = .returned (.func (.func 36) #[] #[.pointer (some ⟨w.heap.size, 0, none⟩)]) ∧ w' = w.alloc (.cells #[.slice A k c] 25) := by
  go_enter Try.func22, Try.ntmps22
  go_wp2
  go_ret
  exact ⟨rfl, rfl⟩
/-- The iterator, by its contract. -/
theorem objs_pan (n : Nat) (hn : 1 ≤ n) (pb B1 : Nat) (A : Option Addr) (c : Nat) (bs : List Int) (w : World) (hB1 : B1 ≤ w.heap.size)
    (hpb : w.heap[pb]? = some (.cells #[.slice A bs.length c] 25 (0, 0))) (hsat : ∀ X : World, (∀ i, i < B1 → X.heap[i]? = w.heap[i]?) → SAt yC 1 X (.slice A bs.length c) bs) (hin : BytesIn bs) (hlen : bs.length ≤ 65536) :
    SeqPan n Try.prog 36 #[.pointer (some ⟨pb, 0, none⟩)] (fun q : Ob => #[q.val]) (KpP B1) (StP w.heap.size) (XP bs) (fun qs => qs.map Ob.key = (rd bs).1 ∧ (rd bs).2 = true) (fun _ => True) (fun ch pre => ch = stopP ∧ (rd bs).2 = false) (65537 + (rd bs).1.length) w := by
  intro l J Jx Jp W hW hJ hJx hJp hY h0
  refine (objs1_any n hn l pb w.heap.size B1 A c bs J Jx Jp W hW.size (by have := hW.size; omega) ((hW.block pb (Array.getElem?_eq_some_iff.1 hpb).1).trans hpb) (fun X hX => hsat X fun i hi => (hX i hi).trans (hW.block i (by omega))) hin hlen hJ (fun pre q W1 hj hx => hY pre q W1 hj hx ?_) h0).mono ?_
  · obtain ⟨more, h⟩ := hx.1
    have := congrArg List.length h
    simp at this
    omega
  · rintro e W' (⟨h1, ⟨qs, h2, h3⟩ | ⟨pre, h2⟩⟩ | h)
    · exact .inl ⟨h1, .inl ⟨qs, h2, h3⟩⟩
    · exact .inl ⟨h1, .inr ⟨pre, trivial, h2⟩⟩
    · exact .inr h
end Go.Proofs.Ytnflgikmljfakaa
