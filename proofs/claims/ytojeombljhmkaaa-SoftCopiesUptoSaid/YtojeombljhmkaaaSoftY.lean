/- Soft: SoftLives. -/
import Derived.Test.YtojeombljhmkaaaSoftU
namespace Go.Proofs.Ytojeombljhmkaaa
open Go.RowKit Go.Shelf Go.Sort
set_option linter.unusedVariables false
set_option linter.unusedSimpArgs false
attribute [local go_sem] Oper.semAt_some
abbrev bCells (b : Bool) : List Value := [.bool b]
abbrev sX : ByteArray := ⟨#[120]⟩
theorem nm_X : namedB sX = true := by decide +kernel
/-- How many are told, where the table is small. -/
theorem go_len (p r : Nat) (now : Int) (L L' : List Th) (es : List (Nat × Th)) (n : Int) (g d : Nat) (w : World) (h : Tb w p r now L es) (hlen : L.length ≤ 20) (hn1 : now ≤ n) (hn2 : n ≤ 2147483647) (hg : (goneL n L).length = g) (hd : (dueL n L).length = d) (hL : goTo n L = L') :
    Calls Try.prog 13 #[.pointer (some ⟨p, 0, none⟩), .int .i64 n] w fun e w' => (∃ A k B m, e = .returned (.tuple #[.slice A g k, .slice B d m, .int .i64 0])) ∧ DidIn p r es w n L' w' := by
  refine (go_all 20 (by omega) stable20 p r now L es n w h hlen hn1 hn2).mono ?_
  rintro e w' ⟨u, v, rfl, hu, hv, hdid⟩
  rw [hg] at hu
  rw [hd] at hv
  rw [hL] at hdid
  rcases hu.2 with ⟨rfl, h0⟩ | ⟨g1, cap, cur, rfl, _⟩ <;> rcases hv.2 with ⟨rfl, k0⟩ | ⟨g2, cap2, cur2, rfl, _⟩ <;> (try subst h0) <;> (try subst k0) <;> exact ⟨⟨_, _, _, _, rfl⟩, hdid⟩
theorem one_gone {n : Int} {X : Th} (h : X.forgot ≤ n) : (goneL n [X]).length = 1 ∧ (dueL n [X]).length = 0 ∧ goTo n [X] = [] := by
  refine ⟨?_, ?_, ?_⟩
  · unfold goneL; rw [List.length_mergeSort, List.filter_cons_of_pos (by simpa using h)]; rfl
  · unfold dueL; rw [List.filter_cons_of_neg (by simpa using h)]; rfl
  · unfold goTo; rw [List.filter_cons_of_neg (by simpa using h)]; rfl
theorem one_due {n : Int} {X : Th} (h : ¬ X.forgot ≤ n) (k : X.next ≤ n) : (goneL n [X]).length = 0 ∧ (dueL n [X]).length = 1 ∧ goTo n [X] = [⟨X.name, X.period, n + X.period, X.forgot⟩] := by
  refine ⟨?_, ?_, ?_⟩
  · unfold goneL; rw [List.length_mergeSort, List.filter_cons_of_neg (by simpa using h)]; rfl
  · unfold dueL; rw [List.filter_cons_of_pos (by simpa using h), List.filter_nil, List.filter_cons_of_pos (by simpa using k)]; rfl
  · unfold goTo; rw [List.filter_cons_of_pos (by simpa using h)]; unfold saidT; simp [k]
theorem one_stays {n : Int} {X : Th} (h : ¬ X.forgot ≤ n) (k : ¬ X.next ≤ n) : (goneL n [X]).length = 0 ∧ (dueL n [X]).length = 0 ∧ goTo n [X] = [X] := by
  refine ⟨?_, ?_, ?_⟩
  · unfold goneL; rw [List.length_mergeSort, List.filter_cons_of_neg (by simpa using h)]; rfl
  · unfold dueL; rw [List.filter_cons_of_pos (by simpa using h), List.filter_nil, List.filter_cons_of_neg (by simpa using k)]; rfl
  · unfold goTo; rw [List.filter_cons_of_pos (by simpa using h)]; unfold saidT; simp [k]
theorem nil_go (n : Int) : (goneL n []).length = 0 ∧ (dueL n []).length = 0 ∧ goTo n [] = [] := by
  refine ⟨?_, rfl, rfl⟩
  unfold goneL; rw [List.length_mergeSort]; rfl
/-- The next multiple. -/
theorem next_mul {P i nx : Int} (hP : 1 ≤ P) (h1 : nx % P = 0) (h2 : i ≤ nx) (h3 : nx < i + P) : nx ≤ i ↔ i % P = 0 := by
  constructor
  · intro h
    obtain rfl : nx = i := by omega
    exact h1
  · intro h
    have h4 : (nx - i) % P = 0 := by rw [Int.sub_emod, h1, h]; simp
    have h5 : (nx - i) % P = nx - i := Int.emod_eq_of_lt (by omega) (by omega)
    omega
theorem keepX (p r : Nat) (es : List (Nat × Th)) (P : Int) (w : World) (hP : 1 ≤ P ∧ P ≤ 40) (h : Tb w p r 0 [] es) : Calls Try.prog 11 #[.pointer (some ⟨p, 0, none⟩), .string ⟨#[120]⟩, .int .i64 P] w fun e w' => e = .returned (.tuple #[.bool true, .int .i64 0]) ∧ Did p r es w 0 [⟨sX, P, P, lifeI P⟩] w' := by
  have h1 := keep_all p r 0 [] es sX P w h
  have h2 : keepL 0 [] sX P = ([⟨sX, P, P, lifeI P⟩], true, 0) := by
    unfold keepL
    rw [if_pos ⟨nm_X, fun h => by have := life_zero.1 h; omega⟩]
    show ((if 256 ≤ 0 then _ else _ : List Th × Bool × Int)) = _
    rw [if_neg (by omega)]
    simp [withL, insL]
  rw [h2] at h1
  exact h1
theorem find_one {X : Th} : findL [X] X.name = some X := by simp [findL]
theorem hearX (p r : Nat) (now : Int) (es : List (Nat × Th)) (P nx fg : Int) (w : World) (h : Tb w p r now [⟨sX, P, nx, fg⟩] es) : Calls Try.prog 16 #[.pointer (some ⟨p, 0, none⟩), .string ⟨#[120]⟩] w fun e w' => e = .returned (.int .i64 0) ∧ Did p r es w now [⟨sX, P, nx, now + lifeI P⟩] w' := by
  have h1 := hear_all p r now _ es sX w h
  have h2 : hearL now [⟨sX, P, nx, fg⟩] sX = ([⟨sX, P, nx, now + lifeI P⟩], 0) := by
    unfold hearL
    rw [if_pos nm_X, show findL [⟨sX, P, nx, fg⟩] sX = some ⟨sX, P, nx, fg⟩ from find_one]
    simp [withL, insL]
  rw [h2] at h1
  exact h1
/-- What is in the table. -/
def LX (here : Bool) (P nx fg : Int) : List Th := if here = true then [⟨sX, P, nx, fg⟩] else []
theorem getX (p r : Nat) (now : Int) (es : List (Nat × Th)) (here : Bool) (P nx fg : Int) (w : World) (h : Tb w p r now (LX here P nx fg) es) : Calls Try.prog 14 #[.pointer (some ⟨p, 0, none⟩), .string ⟨#[120]⟩] w fun e w' => (∃ t : Th, e = .returned (.tuple #[.agg #[.string t.name, .int .i64 t.period, .int .i64 t.next, .int .i64 t.forgot], .bool here])) ∧ Below w.heap.size w w' := by
  refine (get_all p r now _ es sX w h).mono fun e w' ⟨he, hb⟩ => ⟨⟨(getL (LX here P nx fg) sX).1, ?_⟩, hb⟩
  · rw [he]
    have : (getL (LX here P nx fg) sX).2 = here := by
      unfold getL
      rw [if_pos nm_X]
      cases here with
      | true => rw [show findL (LX true P nx fg) sX = some ⟨sX, P, nx, fg⟩ from find_one]
      | false => rfl
    rw [this]
theorem b_row {w : World} {b o : Nat} {xs : List Bool} (h : RowAt bCells 1 w b o xs) {j : Nat} {x : Bool} (hj : xs[j]? = some x) : w.cell? ⟨b, o + j * 1, none⟩ = some (.bool x) := h j x hj 0 _ rfl
theorem next_step {P i nx : Int} (hP : 1 ≤ P) (h1 : nx % P = 0) (h2 : i ≤ nx) (h3 : nx < i + P) : ∃ nx2, nx2 % P = 0 ∧ i + 1 ≤ nx2 ∧ nx2 < i + 1 + P := by
  by_cases h : nx = i
  · exact ⟨nx + P, by rw [Int.add_emod_right]; exact h1, by omega, by omega⟩
  · exact ⟨nx, h1, by omega, by omega⟩
set_option maxRecDepth 100000 in
set_option maxHeartbeats 4000000 in
theorem softLives_any (P : Int) (v : Value) (ls : List Bool) (w : World) (hls : SAt bCells 1 w v ls) :
    Calls Try.prog 5 #[.int .i64 P, v] w fun e w' => e = .returned (.bool true) ∧ Below w.heap.size w w' := by
  obtain ⟨Q, hQ⟩ : ∃ Q : Ending → World → Prop, Q = fun e w' => e = .returned (.bool true) ∧ Below w.heap.size w w' := ⟨_, rfl⟩
  rw [← hQ]
  have HQ := Lib.hid hQ
  clear hQ
  have HK := Lib.hid (known_any w)
  have HLS := Lib.hid hls
  obtain ⟨A, c, rfl⟩ := hls.slice
  clear hls
  by_cases h1 : P < 1
  · go_enter Try.func5, Try.ntmps5
    go_wp2_with (go_at_call 9; refine HK.out.mono ?_; rintro e w' ⟨rfl, hb⟩; have HB := Lib.hid hb; clear hb)
    rw [HQ.out]
    exact ⟨rfl, HB.out⟩
  by_cases h2 : 40 < P
  · go_enter Try.func5, Try.ntmps5
    go_wp2_with (go_at_call 9; refine HK.out.mono ?_; rintro e w' ⟨rfl, hb⟩; have HB := Lib.hid hb; clear hb)
    rw [HQ.out]
    exact ⟨rfl, HB.out⟩
  by_cases h3 : 120 < ls.length
  · have h3z : (120 : Int) < (ls.length : Int) := by omega
    go_enter Try.func5, Try.ntmps5
    go_wp2_with (go_at_call 9; refine HK.out.mono ?_; rintro e w' ⟨rfl, hb⟩; have HB := Lib.hid hb; clear hb)
    rw [HQ.out]
    exact ⟨rfl, HB.out⟩
  have h3z : ¬ (120 : Int) < (ls.length : Int) := by omega
  have HP : Hid (1 ≤ P ∧ P ≤ 40 ∧ ls.length ≤ 120) := Lib.hid (by omega)
  clear HK
  have hnew := Lib.hid (new_all w)
  go_enter Try.func5, Try.ntmps5
  go_upto_region 4 with (go_at_call 10; refine hnew.out.mono ?_; rintro e w1 ⟨p, r, rfl, hp, hr, ht, hb⟩; have HS : Hid (∀ i, TSet p r [] i → w.heap.size ≤ i) := Lib.hid (by rintro i (rfl | rfl | h); exact hp; exact hr; simp at h); have HT := Lib.hid ht; have HB := Lib.hid hb; clear ht hb hp hr)
  go_upto_region 7 with (go_at_call 11; refine (keepX _ _ _ _ _ ⟨HP.out.1, HP.out.2.1⟩ HT.out).mono ?_; rintro e w2 ⟨rfl, hd⟩; obtain ⟨es2, ht, hs, hb⟩ := hd.below HS.out HB.out.size; replace HB := Lib.hid (HB.out.trans hb); replace HT := Lib.hid ht; replace HS := Lib.hid hs; clear ht hs hb hd)
  go_wp2_with fail
  obtain ⟨q, hq⟩ : ∃ q, lifeI P = q := ⟨_, rfl⟩
  have hq1 : 5 < q ∧ q ≤ 5250001 := by have := life_pos (n := P) (by have := HP.out; omega); omega
  rw [hq] at HT
  have HQ2 := Lib.hid hq
  have HQ1 := Lib.hid hq1
  have hp1 : 1 ≤ P := HP.out.1
  have hp40 : P ≤ 40 := HP.out.2.1
  clear hq hq1
  go_loopg [8, 9, 10] (ls.length + 1) (fun gg s8 s9 s10 wr => ∃ (k : Nat) (last nx : Int) (here : Bool) (es : List (Nat × Th)), k ≤ ls.length ∧ ls.length - k ≤ gg ∧ s10 = .int .i64 ((k : Int) + 1) ∧ s8 = .int .i64 last ∧ s9 = .bool here ∧ 0 ≤ last ∧ last ≤ k ∧
    Aside (nx % P = 0 ∧ (k : Int) + 1 ≤ nx ∧ nx < (k : Int) + 1 + P) ∧ Aside (Tb wr p r k (LX here P nx (last + q)) es) ∧ Aside (∀ i, TSet p r es i → w.heap.size ≤ i) ∧ Aside (Below w.heap.size w wr))
  case atStart => exact ⟨0, 0, P, true, _, by omega, by omega, rfl, rfl, rfl, by omega, by omega, ⟨by simp, by omega, by omega⟩, by have := HT.out; rw [show ((0 : Nat) : Int) = 0 from rfl, Int.zero_add]; exact this, HS.out, HB.out⟩
  case round =>
    clear HT HS HB
    obtain ⟨k, last, nx, here, es, hk, hgg, rfl, rfl, rfl, hl0, hl1, HNX, HT, HS, HB⟩ := hrel
    have HLEN := Lib.hid HP.out.2.2
    by_cases hlt : k < ls.length
    · have hle : (k : Int) + 1 ≤ (ls.length : Int) := by omega
      have hltz : (k : Int) < (ls.length : Int) := by omega
      have hk120 : k < 120 := by have := HLEN.out; omega
      have hgk : ls[k]? = some ls[k] := List.getElem?_eq_getElem hlt
      generalize ls[k] = hd at hgk
      rcases HLS.out with ⟨-, g2⟩ | ⟨b, o, c', g1, _, _, hrow⟩
      · subst g2; simp at hlt
      · simp only [Value.slice.injEq] at g1
        obtain ⟨rfl, -, rfl⟩ := g1
        have hcell : ∀ W, Below w.heap.size w W → W.cell? ⟨b, o + k, none⟩ = some (.bool hd) := fun W hW => by have := b_row hrow hgk; rw [Nat.mul_one] at this; exact bl_cell hW this
        have HC := Lib.hid hcell
        clear hrow hcell hgk
        have hcast : ((k + 1 : Nat) : Int) = (k : Int) + 1 := by omega
        obtain ⟨nx2, hnx2⟩ := next_step hp1 HNX.out.1 HNX.out.2.1 HNX.out.2.2
        have HN2 := Lib.hid hnx2
        have HCAST := Lib.hid hcast
        clear hnx2 hcast
        cases here with
        | false =>
          have HGO := Lib.hid (go_len p r k _ [] es ((k : Int) + 1) 0 0 wr HT.out (by simp [LX]) (by omega) (by omega) (nil_go _).1 (nil_go _).2.1 (nil_go _).2.2)
          go_upto_region 20 with (go_at_call 13; refine HGO.out.mono ?_; rintro e w3 ⟨⟨A1, k1, A2, k2, rfl⟩, hdid⟩; have HD := Lib.hid hdid; clear hdid)
          obtain ⟨es2, ht, hs, hb, -⟩ := HD.out.below HS.out HB.out.size; have HT2 := Lib.hid ht; have HS2 := Lib.hid hs; have HB2 := Lib.hid (HB.out.trans hb); have cc := HC.out w3 HB2.out; clear ht hs hb
          cases hd <;> (go_wp2_with fail; go_roundg (ls.length - (k + 1)); (case measure => omega); (case rel => exact ⟨k + 1, last, nx2, false, es2, by omega, by omega, by rw [HCAST.out], rfl, rfl, by omega, by omega, by rw [HCAST.out]; exact HN2.out, by rw [HCAST.out]; exact HT2.out, HS2.out, HB2.out⟩))
        | true =>
          by_cases hdue : last + q ≤ (k : Int) + 1
          · have hX := one_gone (X := ⟨sX, P, nx, last + q⟩) hdue
            have HGO := Lib.hid (go_len p r k _ [] es ((k : Int) + 1) 1 0 wr HT.out (by simp [LX]) (by omega) (by omega) hX.1 hX.2.1 hX.2.2)
            have hz : q ≤ (k : Int) + 1 - last := by omega
            clear hX
            go_upto_region 20 with (first | (go_at_call 13; refine HGO.out.mono ?_; rintro e w3 ⟨⟨A1, k1, A2, k2, rfl⟩, hdid⟩; have HD := Lib.hid hdid; clear hdid) | (go_at_call 15; (with_reducible refine (life_any P _).mono ?_); rintro e w' ⟨rfl, rfl⟩; rw [HQ2.out]))
            obtain ⟨es2, ht, hs, hb, -⟩ := HD.out.below HS.out HB.out.size; have HT2 := Lib.hid ht; have HS2 := Lib.hid hs; have HB2 := Lib.hid (HB.out.trans hb); have cc := HC.out w3 HB2.out; clear ht hs hb
            cases hd <;> (go_wp2_with fail; go_roundg (ls.length - (k + 1)); (case measure => omega); (case rel => exact ⟨k + 1, last, nx2, false, es2, by omega, by omega, by rw [HCAST.out], rfl, rfl, by omega, by omega, by rw [HCAST.out]; exact HN2.out, by rw [HCAST.out]; exact HT2.out, HS2.out, HB2.out⟩))
          · have hz : ¬ q ≤ (k : Int) + 1 - last := by omega
            by_cases hm : ((k : Int) + 1) % P = 0
            · have hX := one_due (X := ⟨sX, P, nx, last + q⟩) (n := (k : Int) + 1) hdue ((next_mul hp1 HNX.out.1 HNX.out.2.1 HNX.out.2.2).2 hm)
              have HGO := Lib.hid (go_len p r k _ _ es ((k : Int) + 1) 0 1 wr HT.out (by simp [LX]) (by omega) (by omega) hX.1 hX.2.1 hX.2.2)
              have hmb : (((k : Int) + 1) % P == 0) = true := by rw [hm]; rfl
              have HM := Lib.hid (And.intro (show ((k : Int) + 1 + P) % P = 0 by rw [Int.add_emod_right]; exact hm) (show (k : Int) + 1 + 1 ≤ (k : Int) + 1 + P ∧ (k : Int) + 1 + P < (k : Int) + 1 + 1 + P by omega))
              clear hX hm
              go_upto_region 20 with (first | (go_at_call 13; refine HGO.out.mono ?_; rintro e w3 ⟨⟨A1, k1, A2, k2, rfl⟩, hdid⟩; have HD := Lib.hid hdid; clear hdid) | (go_at_call 15; (with_reducible refine (life_any P _).mono ?_); rintro e w' ⟨rfl, rfl⟩; rw [HQ2.out]))
              obtain ⟨es2, ht, hs, hb, -⟩ := HD.out.below HS.out HB.out.size; have HT2 := Lib.hid ht; have HS2 := Lib.hid hs; have HB2 := Lib.hid (HB.out.trans hb); have cc := HC.out w3 HB2.out; clear ht hs hb
              cases hd with
              | false => (go_wp2_with fail; go_roundg (ls.length - (k + 1)); (case measure => omega); (case rel => exact ⟨k + 1, last, ((k : Int) + 1 + P), true, es2, by omega, by omega, by rw [HCAST.out], rfl, rfl, by omega, by omega, by rw [HCAST.out]; exact HM.out, by rw [HCAST.out]; exact HT2.out, HS2.out, HB2.out⟩))
              | true => (have HHE := Lib.hid (hearX p r _ es2 P ((k : Int) + 1 + P) _ w3 HT2.out); rw [HQ2.out] at HHE; go_wp2_with (go_at_call 16; refine HHE.out.mono ?_; rintro e w4 ⟨rfl, hd⟩; obtain ⟨es3, ht, hs, hb⟩ := hd.below HS2.out HB2.out.size; have HT3 := Lib.hid ht; have HS3 := Lib.hid hs; have HB3 := Lib.hid (HB2.out.trans hb); clear ht hs hb hd); go_roundg (ls.length - (k + 1)); (case measure => omega); (case rel => exact ⟨k + 1, (k : Int) + 1, ((k : Int) + 1 + P), true, es3, by omega, by omega, by rw [HCAST.out], rfl, rfl, by omega, by omega, by rw [HCAST.out]; exact HM.out, by rw [HCAST.out]; exact HT3.out, HS3.out, HB3.out⟩))
            · have hX := one_stays (X := ⟨sX, P, nx, last + q⟩) (n := (k : Int) + 1) hdue (fun h => hm ((next_mul hp1 HNX.out.1 HNX.out.2.1 HNX.out.2.2).1 h))
              have HGO := Lib.hid (go_len p r k _ _ es ((k : Int) + 1) 0 0 wr HT.out (by simp [LX]) (by omega) (by omega) hX.1 hX.2.1 hX.2.2)
              have hmb : (((k : Int) + 1) % P == 0) = false := beq_eq_false_iff_ne.2 hm
              have hne : nx ≠ (k : Int) + 1 := fun h => hm (by rw [← h]; exact HNX.out.1)
              have HM : Hid (nx % P = 0 ∧ (k : Int) + 1 + 1 ≤ nx ∧ nx < (k : Int) + 1 + 1 + P) := Lib.hid ⟨HNX.out.1, by have := HNX.out.2.1; omega, by have := HNX.out.2.2; omega⟩
              clear hX hne
              go_upto_region 20 with (first | (go_at_call 13; refine HGO.out.mono ?_; rintro e w3 ⟨⟨A1, k1, A2, k2, rfl⟩, hdid⟩; have HD := Lib.hid hdid; clear hdid) | (go_at_call 15; (with_reducible refine (life_any P _).mono ?_); rintro e w' ⟨rfl, rfl⟩; rw [HQ2.out]))
              obtain ⟨es2, ht, hs, hb, -⟩ := HD.out.below HS.out HB.out.size; have HT2 := Lib.hid ht; have HS2 := Lib.hid hs; have HB2 := Lib.hid (HB.out.trans hb); have cc := HC.out w3 HB2.out; clear ht hs hb
              cases hd with
              | false => (go_wp2_with fail; go_roundg (ls.length - (k + 1)); (case measure => omega); (case rel => exact ⟨k + 1, last, nx, true, es2, by omega, by omega, by rw [HCAST.out], rfl, rfl, by omega, by omega, by rw [HCAST.out]; exact HM.out, by rw [HCAST.out]; exact HT2.out, HS2.out, HB2.out⟩))
              | true => (have HHE := Lib.hid (hearX p r _ es2 P nx _ w3 HT2.out); rw [HQ2.out] at HHE; go_wp2_with (go_at_call 16; refine HHE.out.mono ?_; rintro e w4 ⟨rfl, hd⟩; obtain ⟨es3, ht, hs, hb⟩ := hd.below HS2.out HB2.out.size; have HT3 := Lib.hid ht; have HS3 := Lib.hid hs; have HB3 := Lib.hid (HB2.out.trans hb); clear ht hs hb hd); go_roundg (ls.length - (k + 1)); (case measure => omega); (case rel => exact ⟨k + 1, (k : Int) + 1, nx, true, es3, by omega, by omega, by rw [HCAST.out], rfl, rfl, by omega, by omega, by rw [HCAST.out]; exact HM.out, by rw [HCAST.out]; exact HT3.out, HS3.out, HB3.out⟩))
    · obtain rfl : k = ls.length := by omega
      have hle : ¬ (ls.length : Int) + 1 ≤ (ls.length : Int) := by omega
      have HGET := Lib.hid (getX p r _ es here P nx _ wr HT.out)
      go_wp2_with (first | (go_at_call 14; refine HGET.out.mono ?_; rintro e w3 ⟨⟨tt, rfl⟩, hb⟩; have HB3 := Lib.hid (bl_then HB.out hb); clear hb) | (go_at_call 9; refine (known_any _).mono ?_; rintro e w4 ⟨rfl, hb⟩; have HB4 := Lib.hid hb; clear hb))
      rw [HQ.out]
      exact ⟨rfl, bl_then HB3.out (bl_then (bl_alloc (Below.refl _ _) _) HB4.out)⟩
end Go.Proofs.Ytojeombljhmkaaa
