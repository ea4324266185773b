/- Soft: slices.stableCmpFunc, of any number; Stable. -/
import Derived.Test.YtojeombljhmkaaaSoftAH
namespace Go.Proofs.Ytojeombljhmkaaa
open Go.RowKit Go.Shelf Go.Sort
set_option linter.unusedVariables false
set_option linter.unusedSimpArgs false
attribute [local go_sem] Oper.semAt_some
/-- A chunk: what it was, what it is. -/
abbrev Ch := List Th × List Th
def GoodC (ps : List Ch) : Prop := ∀ p ∈ ps, p.2.Perm p.1 ∧ ByL p.2
def FullC (bs : Nat) : List Ch → Prop
  | [] => True
  | [p] => p.1.length ≤ bs
  | p :: q :: l => p.1.length = bs ∧ FullC bs (q :: l)
abbrev fl1 (ps : List Ch) : List Th := ps.flatMap (·.1)
abbrev fl2 (ps : List Ch) : List Th := ps.flatMap (·.2)
theorem good_len {ps : List Ch} (h : GoodC ps) : (fl2 ps).length = (fl1 ps).length := by
  induction ps with
  | nil => rfl
  | cons p l ih =>
    have h1 := (h p List.mem_cons_self).1.length_eq
    have h2 := ih fun q hq => h q (List.mem_cons_of_mem _ hq)
    simp only [fl1, fl2, List.flatMap_cons, List.length_append] at *
    omega
theorem good_perm {ps : List Ch} (h : GoodC ps) : (fl2 ps).Perm (fl1 ps) := by
  induction ps with
  | nil => exact List.Perm.refl _
  | cons p l ih =>
    simp only [fl1, fl2, List.flatMap_cons]
    exact (h p List.mem_cons_self).1.append (ih fun q hq => h q (List.mem_cons_of_mem _ hq))
theorem full_snoc {bs : Nat} : ∀ {ps : List Ch} {p : Ch}, (∀ q ∈ ps, q.1.length = bs) → p.1.length ≤ bs → FullC bs (ps ++ [p])
  | [], p, _, h => h
  | [q], p, hq, h => ⟨hq q (by simp), h⟩
  | q :: r :: l, p, hq, h => ⟨hq q (by simp), full_snoc (ps := r :: l) (fun x hx => hq x (List.mem_cons_of_mem _ hx)) h⟩
theorem full_tail {bs : Nat} {q : Ch} {l : List Ch} (h : FullC bs (q :: l)) : FullC bs l := by
  cases l with
  | nil => trivial
  | cons r l => exact h.2
theorem nil_flat {qs : List Ch} (hg : GoodC qs) (h : (fl1 qs).length = 0) : fl2 qs = [] := List.eq_nil_of_length_eq_zero (by rw [good_len hg, h])
theorem small_flat {bs : Nat} {qs : List Ch} (hg : GoodC qs) (hf : FullC bs qs) (hl : (fl1 qs).length ≤ bs) : ByL (fl2 qs) := by
  match qs, hg, hf, hl with
  | [], _, _, _ => exact List.Pairwise.nil
  | [q], hg, _, _ => simpa [fl2] using (hg q (by simp)).2
  | q :: r :: l, hg, hf, hl =>
    have h1 := hf.1
    simp only [fl1, List.flatMap_cons, List.length_append] at hl
    have h2 : fl2 (r :: l) = [] := nil_flat (fun x hx => hg x (List.mem_cons_of_mem _ hx)) (by simp only [fl1, List.flatMap_cons, List.length_append]; omega)
    show ByL (q.2 ++ fl2 (r :: l))
    rw [h2, List.append_nil]
    exact (hg q List.mem_cons_self).2
theorem two_of {bs : Nat} {qs : List Ch} (hb : 0 < bs) (hf : FullC bs qs) (hl : 2 * bs ≤ (fl1 qs).length) : ∃ q r l, qs = q :: r :: l ∧ q.1.length = bs ∧ r.1.length = bs ∧ FullC bs l := by
  match qs, hf, hl with
  | [], _, hl => simp [fl1] at hl; omega
  | [q], hf, hl => simp [fl1] at hl; have : q.1.length ≤ bs := hf; omega
  | [q, r], hf, hl =>
    have h1 := hf.1
    have h2 : r.1.length ≤ bs := hf.2
    simp [fl1] at hl
    exact ⟨q, r, [], rfl, h1, by omega, trivial⟩
  | q :: r :: s :: l, hf, hl => exact ⟨q, r, s :: l, rfl, hf.1, hf.2.1, hf.2.2⟩
theorem two_less {bs : Nat} {qs : List Ch} (hf : FullC bs qs) (hl : bs < (fl1 qs).length) (hl2 : (fl1 qs).length < 2 * bs) : ∃ q r, qs = [q, r] ∧ q.1.length = bs ∧ 0 < r.1.length := by
  match qs, hf, hl, hl2 with
  | [], _, hl, _ => simp [fl1] at hl
  | [q], hf, hl, _ => simp [fl1] at hl; have : q.1.length ≤ bs := hf; omega
  | [q, r], hf, hl, hl2 =>
    have h1 := hf.1
    simp [fl1] at hl
    exact ⟨q, r, rfl, h1, by omega⟩
  | q :: r :: s :: l, hf, hl, hl2 =>
    have h1 := hf.1
    have h2 := hf.2.1
    simp only [fl1, List.flatMap_cons, List.length_append] at hl2
    omega
theorem name_mid {A B C D : List Th} (h : ByName (A ++ (B ++ (C ++ D)))) : ∀ x ∈ B, ∀ y ∈ C, ltS x.name y.name = true := fun x hx y hy => by
  obtain ⟨_, h2, _⟩ := List.pairwise_append.1 h
  obtain ⟨_, _, h5⟩ := List.pairwise_append.1 h2
  exact h5 x hx y (List.mem_append_left _ hy)
set_option maxRecDepth 100000 in
set_option maxHeartbeats 4000000 in
theorem stable_cmp (base g cap n : Nat) (xs : List Th) (w : World) (hr : RowS base g cap xs w) (hb0 : base ≤ w.heap.size) (hx : ByName xs) (hn : xs.length = n) (hlen : n ≤ 1000000) :
    Calls Try.prog 49 #[.slice (some ⟨g, 0, none⟩) n cap, .int .i64 (n : Int), .func (.func 35) #[] #[]] w fun e w' =>
      e = .returned (.tuple #[]) ∧ (∃ Z, Z.Perm xs ∧ ByL Z ∧ RowS base g cap Z w') ∧ Below base w w' := by
  obtain ⟨Q, hQ⟩ : ∃ Q : Ending → World → Prop, Q = fun e w' => e = .returned (.tuple #[]) ∧ (∃ Z, Z.Perm xs ∧ ByL Z ∧ RowS base g cap Z w') ∧ Below base w w' := ⟨_, rfl⟩
  rw [← hQ]
  have HQ := Lib.hid hQ
  have HR := Lib.hid hr
  have HX := Lib.hid hx
  have HN := Lib.hid (And.intro hn hb0)
  clear hQ hr hx hn hb0
  go_enter Try.func49, Try.ntmps49
  go_wp2_with fail
  go_loopg [7, 8] (n + 1) (fun gg s7 s8 wr => ∃ (k : Nat) (ps : List Ch) (rest : List Th), s7 = .int .i64 ((20 * k : Nat) : Int) ∧ s8 = .int .i64 ((20 * k + 20 : Nat) : Int) ∧ 20 * k ≤ n ∧ n - 20 * k ≤ gg ∧ Aside ((∀ q ∈ ps, q.1.length = 20) ∧ GoodC ps ∧ (fl1 ps).length = 20 * k ∧ xs = fl1 ps ++ rest) ∧ Aside (RowS base g cap (fl2 ps ++ rest) wr) ∧ Aside (Below base w wr))
  case atStart => exact ⟨0, [], xs, rfl, rfl, by omega, by omega, ⟨fun q hq => by simp at hq, fun q hq => by simp at hq, rfl, rfl⟩, HR.out, Below.refl _ _⟩
  case round =>
    obtain ⟨k, ps, rest, rfl, rfl, hk, hgg, HP, HRW, HB⟩ := hrel
    obtain ⟨a, ha⟩ : ∃ a, a = 20 * k := ⟨_, rfl⟩
    obtain ⟨b, hb⟩ : ∃ b, b = 20 * k + 20 := ⟨_, rfl⟩
    rw [← hb, ← ha]
    have hbz : base ≤ wr.heap.size := Nat.le_trans HN.out.2 HB.out.size
    have hgl := good_len HP.out.2.1
    have hxl : n = (fl1 ps).length + rest.length := by rw [← HN.out.1, HP.out.2.2.2]; simp only [List.length_append]
    by_cases hlt : b ≤ n
    · have hltz : (b : Int) ≤ (n : Int) := by omega
      obtain ⟨R, rest2, hR, hRl⟩ : ∃ R rest2, rest = R ++ rest2 ∧ R.length = 20 := ⟨rest.take 20, rest.drop 20, (List.take_append_drop _ _).symm, by have := HP.out.2.2.1; simp; omega⟩
      subst hR
      have hxs := HX.out
      rw [HP.out.2.2.2] at hxs
      have hRn : ByName R := (List.pairwise_append.1 (List.pairwise_append.1 hxs).2.1).1
      have hi := ins_row base g cap n a b (fl2 ps) R rest2 wr HRW.out hbz hRn (by have := HP.out.2.2.1; simp only [List.length_append] at hxl ⊢; omega) hlen (by have := HP.out.2.2.1; omega) (by omega)
      have HI := Lib.hid hi
      have HRL := Lib.hid (And.intro hRl (And.intro ha hb))
      have e20 : (b : Int) + 20 = ((20 * (k + 1) + 20 : Nat) : Int) := by omega
      have e21 : (b : Int) = ((20 * (k + 1) : Nat) : Int) := by omega
      have HEE := Lib.hid (And.intro e20 e21)
      have hwr : IntKind.i64.wrap ((b : Int) + 20) = (b : Int) + 20 := by rw [IntKind.wrap_i64]; omega
      clear hi hRl hxs hRn hgl hxl e20 e21 ha hb
      go_wp2_with (go_at_call 58; (with_reducible refine HI.out.mono ?_); rintro e' w3 ⟨rfl, ⟨Z, hp, hs, hr3⟩, hb3⟩; have HZ := Lib.hid (And.intro hp (And.intro hs hr3)); have HB3 := Lib.hid (HB.out.trans hb3); clear hp hs hr3 hb3)
      go_roundg (n - 20 * (k + 1))
      case measure => have := HRL.out; omega
      case rel =>
        refine ⟨k + 1, ps ++ [(R, Z)], rest2, by rw [HEE.out.2], by rw [← HEE.out.1], by have := HRL.out; omega, by omega, ⟨fun q hq => ?_, fun q hq => ?_, ?_, ?_⟩, (show RowS base g cap _ _ from ?_), HB3.out⟩
        · rcases List.mem_append.1 hq with hq | hq
          · exact HP.out.1 q hq
          · rw [List.mem_singleton.1 hq]; exact HRL.out.1
        · rcases List.mem_append.1 hq with hq | hq
          · exact HP.out.2.1 q hq
          · rw [List.mem_singleton.1 hq]; exact ⟨HZ.out.1, HZ.out.2.1⟩
        · have := HP.out.2.2.1
          have := HRL.out.1
          simp only [fl1, List.flatMap_append, List.length_append, List.flatMap_cons, List.flatMap_nil, List.append_nil] at *
          omega
        · rw [HP.out.2.2.2]; simp [fl1]
        · have := HZ.out.2.2
          simpa [fl2] using this
    · have hltz : ¬ (b : Int) ≤ (n : Int) := by omega
      have hxs := HX.out
      rw [HP.out.2.2.2] at hxs
      have hRn : ByName rest := (List.pairwise_append.1 hxs).2.1
      have hi := ins_row base g cap n a n (fl2 ps) rest [] wr (by have := HRW.out; simpa using this) hbz hRn (by simp only [List.length_append, List.length_nil]; omega) hlen (by have := HP.out.2.2.1; omega) (by have := HP.out.2.2.1; omega)
      have HI := Lib.hid hi
      have hrl : rest.length ≤ 20 := by have := HP.out.2.2.1; omega
      have HRL := Lib.hid hrl
      obtain ⟨wa, hwa⟩ : ∃ wa, wa = wr := ⟨_, rfl⟩
      subst hwa
      clear hi hxs hRn hgl hxl hrl ha hb
      go_wp2_with (go_at_call 58; (with_reducible refine HI.out.mono ?_); rintro e' w3 ⟨rfl, ⟨Z, hp, hs, hr3⟩, hb3⟩; have HZ := Lib.hid (And.intro hp (And.intro hs hr3)); have HB3 := Lib.hid (HB.out.trans hb3); clear hp hs hr3 hb3)
      have HQ0 : Hid (∃ qs : List Ch, FullC 20 qs ∧ GoodC qs ∧ xs = fl1 qs ∧ RowS base g cap (fl2 qs) w3) := Lib.hid ⟨ps ++ [(rest, Z)], full_snoc HP.out.1 HRL.out, fun q hq => by
        rcases List.mem_append.1 hq with hq | hq
        · exact HP.out.2.1 q hq
        · rw [List.mem_singleton.1 hq]; exact ⟨HZ.out.1, HZ.out.2.1⟩, by rw [HP.out.2.2.2]; simp [fl1], by have := HZ.out.2.2; simpa [fl2] using this⟩
      clear HB HP HRW HI HZ
      go_loopg [6, 7, 8, 9] (n + 1) (fun gg s6 s7 s8 s9 wr => ∃ (bs : Nat) (qs : List Ch), s6 = .int .i64 (bs : Int) ∧ 20 ≤ bs ∧ n - bs ≤ gg ∧ bs ≤ 2000020 ∧ Aside (FullC bs qs ∧ GoodC qs ∧ xs = fl1 qs) ∧ Aside (RowS base g cap (fl2 qs) wr) ∧ Aside (Below base w wr))
      case atStart =>
        obtain ⟨qs, q1, q2, q3, q4⟩ := HQ0.out
        exact ⟨20, qs, rfl, by omega, by omega, by omega, ⟨q1, q2, q3⟩, q4, HB3.out⟩
      case round =>
        obtain ⟨bs, qs, rfl, hbs, hgg2, hbs2, HP, HRW, HB⟩ := hrel
        by_cases hbn : bs < n
        · have hbnz : (bs : Int) < (n : Int) := by omega
          obtain ⟨wb, hwb⟩ : ∃ wb, wb = wr := ⟨_, rfl⟩
          subst hwb
          obtain ⟨b2, hb2⟩ : ∃ b2, b2 = 2 * bs := ⟨_, rfl⟩
          have zb2 : 2 * (bs : Int) = (b2 : Int) := by omega
          have HB2 := Lib.hid hb2
          clear hb2
          have hb2n : b2 ≤ 2000000 := by have := HB2.out; omega
          have hb20 : 0 < b2 := by have := HB2.out; omega
          go_wp2_with fail
          go_loopg [7, 8] (n + 1) (fun gg s7 s8 wr => ∃ (ps qs' : List Ch) (a b : Nat), s7 = .int .i64 (a : Int) ∧ s8 = .int .i64 (b : Int) ∧ a ≤ n ∧ b ≤ 3000000 ∧ n - a ≤ gg ∧ Aside (b = a + b2 ∧ ((∀ q ∈ ps, q.1.length = b2) ∧ GoodC ps ∧ (fl1 ps).length = a) ∧ (FullC bs qs' ∧ GoodC qs') ∧ xs = fl1 ps ++ fl1 qs') ∧ Aside (RowS base g cap (fl2 ps ++ fl2 qs') wr) ∧ Aside (Below base w wr))
          case atStart => exact ⟨[], qs, 0, b2, rfl, rfl, by omega, by omega, by omega, ⟨by omega, ⟨fun q hq => by simp at hq, fun q hq => by simp at hq, rfl⟩, ⟨HP.out.1, HP.out.2.1⟩, by rw [HP.out.2.2]; rfl⟩, (show RowS base g cap _ _ from by have := HRW.out; simpa [fl2] using this), HB.out⟩
          case round =>
            clear HP HRW HB
            obtain ⟨ps, qs', a, b, rfl, rfl, han, hb3, hgg3, HP, HRW, HB⟩ := hrel
            have hbz : base ≤ wr.heap.size := Nat.le_trans HN.out.2 HB.out.size
            have hgp := good_len HP.out.2.1.2.1
            have hgq := good_len HP.out.2.2.1.2
            have hxl : n = a + (fl1 qs').length := by rw [← HN.out.1, HP.out.2.2.2]; simp only [List.length_append]; have := HP.out.2.1.2.2; omega
            have hbe := HP.out.1
            have hbb := HB2.out
            obtain ⟨m, hm⟩ : ∃ m, m = a + bs := ⟨_, rfl⟩
            have zm : (a : Int) + (bs : Int) = (m : Int) := by omega
            have zw : IntKind.i64.wrap ((a : Int) + (bs : Int)) = (m : Int) := by rw [IntKind.wrap_i64]; omega
            have hpa := HP.out.2.1.2.2
            have hxs := HX.out
            rw [HP.out.2.2.2] at hxs
            by_cases hlt : b ≤ n
            · have hltz : (b : Int) ≤ (n : Int) := by omega
              obtain ⟨q, r, l, hqs, hq1, hr1, hfl⟩ := two_of (by omega) HP.out.2.2.1.1 (by omega : 2 * bs ≤ (fl1 qs').length)
              subst hqs
              have hgq1 := HP.out.2.2.1.2 q (by simp)
              have hgr1 := HP.out.2.2.1.2 r (by simp)
              have hq2 := hgq1.1.length_eq
              have hr2 := hgr1.1.length_eq
              have hnm : ∀ x ∈ q.2, ∀ y ∈ r.2, ltS x.name y.name = true := fun x hx y hy => name_mid (A := fl1 ps) (B := q.1) (C := r.1) (D := fl1 l) (by simpa [fl1] using hxs) x (hgq1.1.mem_iff.1 hx) y (hgr1.1.mem_iff.1 hy)
              have hrw : RowS base g cap (fl2 ps ++ (q.2 ++ (r.2 ++ fl2 l))) wr := by have := HRW.out; simpa [fl2] using this
              have hi := merge_is _ base g cap n a m b (fl2 ps) q.2 r.2 (fl2 l) wr hrw hbz (by omega) (by omega) (Nat.le_refl _) hgq1.2 hgr1.2 hnm (by simp only [fl1, fl2, List.flatMap_cons, List.length_append] at *; omega) hlen (by omega) (by omega) (by omega)
              have HI := Lib.hid hi
              have HQR := Lib.hid (And.intro hq1 (And.intro hr1 (And.intro hfl (And.intro hgq1 (And.intro hgr1 (And.intro hbe hbb))))))
              have zb : (b : Int) + (b2 : Int) = ((b + b2 : Nat) : Int) := by omega
              have ZB := Lib.hid zb
              have zwb : IntKind.i64.wrap ((b : Int) + (b2 : Int)) = (b : Int) + (b2 : Int) := by rw [IntKind.wrap_i64]; omega
              clear hi hq1 hr1 hfl hgq1 hgr1 hq2 hr2 hnm hrw hgp hgq hxl hbe hbb hm hpa hxs zb
              go_wp2_with (go_at_call 59; (with_reducible refine HI.out.mono ?_); rintro e' w3 ⟨rfl, ⟨Z, hp, hs, hr3⟩, hb3⟩; have HZ := Lib.hid (And.intro hp (And.intro hs hr3)); have HB3 := Lib.hid (HB.out.trans hb3); clear hp hs hr3 hb3)
              go_roundg (n - b)
              case measure => have := HQR.out; omega
              case rel =>
                have hqr := HQR.out
                refine ⟨ps ++ [(q.1 ++ r.1, Z)], l, b, b + b2, rfl, by first | rw [ZB.out] | go_num, by omega, by omega, by omega, ⟨rfl, ⟨fun u hu => ?_, fun u hu => ?_, ?_⟩, ⟨hqr.2.2.1, fun u hu => HP.out.2.2.1.2 u (by simp [hu])⟩, ?_⟩, (show RowS base g cap _ _ from ?_), HB3.out⟩
                · rcases List.mem_append.1 hu with hu | hu
                  · exact HP.out.2.1.1 u hu
                  · rw [List.mem_singleton.1 hu]; simp only [List.length_append]; omega
                · rcases List.mem_append.1 hu with hu | hu
                  · exact HP.out.2.1.2.1 u hu
                  · rw [List.mem_singleton.1 hu]; exact ⟨HZ.out.1.trans (hqr.2.2.2.1.1.append hqr.2.2.2.2.1.1), HZ.out.2.1⟩
                · have := HP.out.2.1.2.2
                  simp only [fl1, List.flatMap_append, List.length_append, List.flatMap_cons, List.flatMap_nil, List.append_nil] at *
                  omega
                · rw [HP.out.2.2.2]; simp [fl1]
                · have := HZ.out.2.2
                  simpa [fl2] using this
            · have hltz : ¬ (b : Int) ≤ (n : Int) := by omega
              have zw2 : IntKind.i64.wrap ((bs : Int) * 2) = (b2 : Int) := by rw [IntKind.wrap_i64]; omega
              have zw3 : (bs : Int) * 2 = (b2 : Int) := by omega
              by_cases hmn : m < n
              · have hmnz : (m : Int) < (n : Int) := by omega
                obtain ⟨q, r, hqs, hq1, hr1⟩ := two_less HP.out.2.2.1.1 (by omega) (by omega)
                subst hqs
                have hgq1 := HP.out.2.2.1.2 q (by simp)
                have hgr1 := HP.out.2.2.1.2 r (by simp)
                have hq2 := hgq1.1.length_eq
                have hr2 := hgr1.1.length_eq
                have hnm : ∀ x ∈ q.2, ∀ y ∈ r.2, ltS x.name y.name = true := fun x hx y hy => name_mid (A := fl1 ps) (B := q.1) (C := r.1) (D := []) (by simpa [fl1] using hxs) x (hgq1.1.mem_iff.1 hx) y (hgr1.1.mem_iff.1 hy)
                have hrw : RowS base g cap (fl2 ps ++ (q.2 ++ (r.2 ++ []))) wr := by have := HRW.out; simpa [fl2] using this
                have hi := merge_is _ base g cap n a m n (fl2 ps) q.2 r.2 [] wr hrw hbz (by omega) (by omega) (Nat.le_refl _) hgq1.2 hgr1.2 hnm (by simp only [fl1, fl2, List.flatMap_cons, List.flatMap_nil, List.length_append, List.length_nil] at *; omega) hlen (by omega) (by omega) (by simp only [fl1, fl2, List.flatMap_cons, List.flatMap_nil, List.length_append, List.length_nil] at *; omega)
                have HI := Lib.hid hi
                have hql : (q.1 ++ r.1).length ≤ b2 := by simp only [fl1, List.flatMap_cons, List.flatMap_nil, List.length_append, List.length_nil] at *; omega
                have HQR := Lib.hid (And.intro hql (And.intro hgq1 hgr1))
                clear hi hq1 hr1 hgq1 hgr1 hq2 hr2 hnm hrw hgp hgq hxl hbe hbb hm hpa hxs hql
                go_wp2_with (go_at_call 59; (with_reducible refine HI.out.mono ?_); rintro e' w3 ⟨rfl, ⟨Z, hp, hs, hr3⟩, hb3⟩; have HZ := Lib.hid (And.intro hp (And.intro hs hr3)); have HB3 := Lib.hid (HB.out.trans hb3); clear hp hs hr3 hb3)
                go_roundg (n - b2)
                case measure => have := HB2.out; omega
                case rel =>
                  refine ⟨b2, ps ++ [(q.1 ++ r.1, Z)], by first | rfl | rw [zw3] | go_num, by have := HB2.out; omega, by omega, by omega, ⟨full_snoc HP.out.2.1.1 HQR.out.1, fun u hu => ?_, ?_⟩, (show RowS base g cap _ _ from ?_), HB3.out⟩
                  · rcases List.mem_append.1 hu with hu | hu
                    · exact HP.out.2.1.2.1 u hu
                    · rw [List.mem_singleton.1 hu]; exact ⟨HZ.out.1.trans (HQR.out.2.1.1.append HQR.out.2.2.1), HZ.out.2.1⟩
                  · rw [HP.out.2.2.2]; simp [fl1]
                  · have := HZ.out.2.2
                    simpa [fl2] using this
              · have hmnz : ¬ (m : Int) < (n : Int) := by omega
                have hsm := small_flat HP.out.2.2.1.2 HP.out.2.2.1.1 (by omega)
                have hql : (fl1 qs').length ≤ b2 := by omega
                have HQR := Lib.hid (And.intro hql hsm)
                clear hgp hgq hxl hbe hbb hm hpa hxs hql hsm
                go_wp2_with fail
                go_roundg (n - b2)
                case measure => have := HB2.out; omega
                case rel =>
                  refine ⟨b2, ps ++ [(fl1 qs', fl2 qs')], by first | rfl | rw [zw3] | go_num, by have := HB2.out; omega, by omega, by omega, ⟨full_snoc HP.out.2.1.1 HQR.out.1, fun u hu => ?_, ?_⟩, (show RowS base g cap _ _ from ?_), HB.out⟩
                  · rcases List.mem_append.1 hu with hu | hu
                    · exact HP.out.2.1.2.1 u hu
                    · rw [List.mem_singleton.1 hu]; exact ⟨good_perm HP.out.2.2.1.2, HQR.out.2⟩
                  · rw [HP.out.2.2.2]; simp [fl1]
                  · have := HRW.out
                    simpa [fl2] using this
        · have hbnz : ¬ (bs : Int) < (n : Int) := by omega
          go_wp2_with fail
          go_end0
          rw [HQ.out]
          refine ⟨rfl, ⟨fl2 qs, ?_, small_flat HP.out.2.1 HP.out.1 (by rw [← HP.out.2.2, HN.out.1]; omega), HRW.out⟩, HB.out⟩
          rw [HP.out.2.2]
          exact good_perm HP.out.2.1
set_option maxRecDepth 100000 in
set_option maxHeartbeats 400000 in
theorem stable_all : Stable 1000000 := by
  intro base v xs w hrow hb0 hlen hx
  rcases hrow.2 with ⟨rfl, hn⟩ | ⟨g', cap, cur, rfl, hbase, hb, h2, h3, h4, h5⟩
  · obtain rfl : xs = [] := List.eq_nil_of_length_eq_zero hn
    refine (stable_nil w).mono ?_
    rintro e w' ⟨rfl, rfl⟩
    exact ⟨rfl, ⟨[], ⟨List.Perm.refl _, List.Pairwise.nil⟩, hrow⟩, Below.refl _ _⟩
  · have h := stable_cmp base g' cap xs.length xs w hrow hb0 hx rfl hlen
    have H := Lib.hid h
    obtain ⟨Q, hQ⟩ : ∃ Q : Ending → World → Prop, Q = fun e w' => e = .returned (.tuple #[]) ∧ (∃ ys, IsF ys xs ∧ w'.ownsRow base 35 4 (.slice (some ⟨g', 0, none⟩) xs.length cap) ys.length (ys.flatMap Th.cells)) ∧ Below base w w' := ⟨_, rfl⟩
    rw [← hQ]
    have HQ := Lib.hid hQ
    clear hQ h hrow hx
    go_enter Try.func34, Try.ntmps34
    go_wp2_with (go_at_call 49; refine H.out.mono ?_; rintro e w' ⟨rfl, ⟨Z, hp, hs, hr⟩, hb⟩; have HZ := Lib.hid (And.intro hp (And.intro hs (And.intro hr hb))); clear hp hs hr hb)
    go_end0
    rw [HQ.out]
    refine ⟨rfl, ⟨Z, ⟨HZ.out.1, HZ.out.2.1⟩, ?_⟩, HZ.out.2.2.2⟩
    have := HZ.out.2.2.1
    unfold RowS at this
    rw [HZ.out.1.length_eq] at this ⊢
    exact this
end Go.Proofs.Ytojeombljhmkaaa
