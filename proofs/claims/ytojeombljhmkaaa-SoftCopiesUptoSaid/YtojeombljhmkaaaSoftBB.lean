/- Soft: the document's without. -/
import Derived.Test.YtojeombljhmkaaaSoftBA
namespace Go.Proofs.Ytojeombljhmkaaa
open Go.RowKit Go.Shelf Go.Sort
set_option linter.unusedVariables false
set_option linter.unusedSimpArgs false
attribute [local go_sem] Oper.semAt_some
/-- The two cells of a table of the document's. -/
theorem cells2 {w1 : World} {b : Nat} {v0 v1 : Value} {t : TypeId} (h : w1.heap[b]? = some (.cells #[v0, v1] t (0, 0))) :
    w1.cell? ⟨b, 0, none⟩ = some v0 ∧ w1.cell? ⟨b, 1, none⟩ = some v1 ∧ w1.frozen? ⟨b, 0, none⟩ = false ∧ w1.frozen? ⟨b, 1, none⟩ = false := by
  refine ⟨by rw [cell_blk h]; rfl, by rw [cell_blk h]; rfl, ?_, ?_⟩ <;> simp [World.frozen?, h]
abbrev delL (L : List Th) (s : ByteArray) : List Th := L.filter fun y => decide (y.name ≠ s)
theorem own_set {w : World} {base e k n : Nat} {v : Value} {cs : List Value} {q : Addr} (h : w.ownsRow base e k v n cs) (hq : q.block < base) (u : Value) : (w.setCell q u).ownsRow base e k v n cs := by
  refine ⟨h.1, ?_⟩
  rcases h.2 with h2 | ⟨g, cap, cur, h1, h2, h3, h4⟩
  · exact .inl h2
  · exact .inr ⟨g, cap, cur, h1, h2, (heap_set_other (by omega)).trans h3, h4⟩
set_option maxRecDepth 100000 in
set_option maxHeartbeats 1000000 in
theorem rwithout_any (now : Int) (v : Value) (L : List Th) (s : ByteArray) (w : World) (h : SAt Th.cells 4 w v L) (hlen : L.length ≤ 1000000) :
    Calls Try.prog 53 #[.agg #[.int .i64 now, v], .string s] w fun e w' => (∃ u, e = .returned (.agg #[.int .i64 now, u]) ∧ w'.ownsRow w.heap.size 35 4 u (delL L s).length ((delL L s).flatMap Th.cells)) ∧ Below w.heap.size w w' := by
  obtain ⟨A, c, rfl⟩ := h.slice
  have H := Lib.hid h
  have HLEN := Lib.hid hlen
  obtain ⟨Q, hQ⟩ : ∃ Q : Ending → World → Prop, Q = fun e w' => (∃ u, e = .returned (.agg #[.int .i64 now, u]) ∧ w'.ownsRow w.heap.size 35 4 u (delL L s).length ((delL L s).flatMap Th.cells)) ∧ Below w.heap.size w w' := ⟨_, rfl⟩
  rw [← hQ]
  have HQ := Lib.hid hQ
  have hlz : (L.length : Int) ≤ 1000000 := by omega
  clear hQ h hlen
  have hb1 := bl_alloc (bl_alloc (Below.refl w.heap.size w) (.cells #[.int .i64 now, .slice A L.length c] 47)) (.cells #[.int .i64 0, .slice none 0 0] 47)
  have hk1 : ((w.alloc (.cells #[.int .i64 now, .slice A L.length c] 47)).alloc (.cells #[.int .i64 0, .slice none 0 0] 47)).heap[w.heap.size]? = some (.cells #[.int .i64 now, .slice A L.length c] 47 (0, 0)) :=
    ((bl_alloc (Below.refl _ _) _).block w.heap.size (by simp)).trans (at_alloc rfl)
  have hk2 : ((w.alloc (.cells #[.int .i64 now, .slice A L.length c] 47)).alloc (.cells #[.int .i64 0, .slice none 0 0] 47)).heap[w.heap.size + 1]? = some (.cells #[.int .i64 0, .slice none 0 0] 47 (0, 0)) := at_alloc (by simp)
  have hz1 : ((w.alloc (.cells #[.int .i64 now, .slice A L.length c] 47)).alloc (.cells #[.int .i64 0, .slice none 0 0] 47)).heap.size = w.heap.size + 2 := by simp
  obtain ⟨w1, hw1⟩ : ∃ w1, w1 = (w.alloc (.cells #[.int .i64 now, .slice A L.length c] 47)).alloc (.cells #[.int .i64 0, .slice none 0 0] 47) := ⟨_, rfl⟩
  rw [← hw1] at hb1 hk1 hk2 hz1
  have HB1 := Lib.hid hb1
  have HK1 := Lib.hid (And.intro hk1 (And.intro hk2 hz1))
  have HW1 := Lib.hid hw1
  clear hb1 hk1 hk2 hz1 hw1
  go_enter Try.func53, Try.ntmps53
  go_wp2_with fail
  rw [← HW1.out]
  go_loopg [5, 6] (L.length + 1) (fun gg s5 s6 wr => ∃ (k : Nat) (u : Value) (n : Nat), k ≤ L.length ∧ L.length - k ≤ gg ∧ s6 = .int .i64 (k : Int) ∧ u = s5 ∧ Aside (Below w1.heap.size w1 wr) ∧ Aside (n = (delL (L.take k) s).length ∧ wr.ownsRow w1.heap.size 35 4 u n ((delL (L.take k) s).flatMap Th.cells)))
  case atStart => exact ⟨0, _, 0, by omega, by omega, rfl, rfl, Below.refl _ _, ⟨rfl, World.ownsRow_nil _ _ _ _⟩⟩
  case round =>
    obtain ⟨k, u, n, hk, hgg, rfl, rfl, HB, HO⟩ := hrel
    have hkk := HK1.out
    obtain ⟨t0, t1, t2, t3⟩ := cells2 ((HB.out.block w.heap.size (by omega)).trans hkk.1)
    obtain ⟨r0, r1, r2, r3⟩ := cells2 ((HB.out.block (w.heap.size + 1) (by omega)).trans hkk.2.1)
    have hz1 := hkk.2.2
    have hzr : w1.heap.size ≤ wr.heap.size := HB.out.size
    by_cases hlt : k < L.length
    · have hltz : (k : Int) < (L.length : Int) := by omega
      have hgk : L[k]? = some L[k] := List.getElem?_eq_getElem hlt
      generalize L[k] = x at hgk
      rcases H.out.below (HB1.out.trans (HB.out.mono HB1.out.size)) with ⟨-, q2⟩ | ⟨b, o, c', q1, _, _, hrow⟩
      · subst q2; simp at hlt
      · simp only [Value.slice.injEq] at q1
        obtain ⟨rfl, -, rfl⟩ := q1
        obtain ⟨c0, c1', c2, c3⟩ := th_row hrow hgk
        have HK := Lib.hid hgk
        clear hrow hgk hkk
        by_cases hxs : x.name = s
        · have hb : (x.name.toList == s.toList) = true := by rw [hxs]; simp
          have HXS := Lib.hid hxs
          clear hxs
          go_wp2_with fail
          go_roundg (L.length - (k + 1))
          case measure => omega
          case rel =>
            refine ⟨k + 1, u, n, by omega, by omega, by go_num, rfl, HB.out, (show _ ∧ _ from ?_)⟩
            rw [← take_snoc' HK.out, delL, List.filter_append, List.filter_cons_of_neg (by simp [HXS.out]), List.filter_nil, List.append_nil]
            exact HO.out
        · have hb : (x.name.toList == s.toList) = false := by
            cases h4 : x.name.toList == s.toList with
            | false => rfl
            | true => exact absurd (toList_inj (beq_iff_eq.1 h4)) hxs
          have HXS := Lib.hid hxs
          have hn : n ≤ 1000000 - 1 := by have h1 := HO.out.1; have h2 : (delL (L.take k) s).length ≤ k := Nat.le_trans (List.length_filter_le _ _) (by simp; omega); have := HLEN.out; omega
          have HNN := Lib.hid (And.intro HO.out.1 hn)
          have HOW := Lib.hid (own_lies HO.out.2 (bl_alloc (Below.refl _ _) (.cells #[.string x.name, .int .i64 x.period, .int .i64 x.next, .int .i64 x.forgot] 35)))
          clear hxs hn
          go_wp2_with (at_builtin; go_loud (refine wpList_app rfl (.tmp 22) (.tmp 28) rfl elTh (fun _ => rfl) th_one (base := w1.heap.size) (v := u) (src := .slice (some ⟨wr.heap.size, 0, none⟩) 1 1) (xs := delL (L.take k) s) (ys := [x]) (by go_simp) (by go_simp) HNN.out.1 HOW.out (sat_oneT wr x rfl) (by simp <;> omega) (by have := HNN.out; simp [maxLen]; omega) (by have := HNN.out; simp; omega) ?_; intro v9 w9 hown9 hg9; have HB9 : Hid (Below w1.heap.size w1 w9) := Lib.hid ((HB.out.trans ((bl_alloc (Below.refl wr.heap.size wr) _).mono hzr)).trans (own_below HOW.out hg9 (by simp <;> omega))); have HO9 := Lib.hid hown9; clear hg9 hown9))
          go_roundg (L.length - (k + 1))
          case measure => omega
          case rel =>
            refine ⟨k + 1, v9, _, by omega, by omega, by go_num, rfl, HB9.out, (show _ ∧ _ from ⟨rfl, ?_⟩)⟩
            rw [← take_snoc' HK.out, delL, List.filter_append, List.filter_cons_of_pos (by simpa using HXS.out), List.filter_nil]
            exact HO9.out
    · obtain rfl : k = L.length := by omega
      have hltz : ¬ (L.length : Int) < (L.length : Int) := by omega
      have ho := HO.out.2
      rw [HO.out.1, List.take_length] at ho
      obtain ⟨A5, c5, rfl⟩ := own_form ho
      have HO5 := Lib.hid ho
      have HBK1 := Lib.hid ((HB.out.block w.heap.size (by omega)).trans hkk.1)
      have HBK2 := Lib.hid ((HB.out.block (w.heap.size + 1) (by omega)).trans hkk.2.1)
      generalize hN : (delL L s).length = N at ho HO5
      have HN := Lib.hid hN
      clear ho hN hkk
      go_wp2_with fail
      have hne : w.heap.size + 1 ≠ w.heap.size := by omega
      have hfin := heap_set (o := 1) (v := .slice A5 N c5) (heap_set (o := 0) (v := .int .i64 now) ((heap_set_other (w := wr) (q := ⟨w.heap.size, 1, none⟩) (v := .slice A5 N c5) hne).trans HBK2.out))
      have s0 := (cell_blk (o := 0) hfin)
      have s1 := (cell_blk (o := 1) hfin)
      simp at s0 s1
      refine bodyPost_ret (v := .agg #[.int .i64 now, .slice A5 N c5]) (by simp [results, Try.results53, go_sem, s0, s1]) rfl ?_
      rw [HQ.out]
      have hbf : Below w.heap.size w (((wr.setCell ⟨w.heap.size, 1, none⟩ (.slice A5 N c5)).setCell ⟨w.heap.size + 1, 0, none⟩ (.int .i64 now)).setCell ⟨w.heap.size + 1, 1, none⟩ (.slice A5 N c5)) :=
        bl_set (bl_set (bl_set (HB1.out.trans (HB.out.mono HB1.out.size)) (Nat.le_refl _) _) (Nat.le_succ _) _) (Nat.le_succ _) _
      refine ⟨⟨_, rfl, ?_⟩, hbf⟩
      rw [HN.out]
      have hz := HK1.out.2.2
      refine own_mono (b0 := w.heap.size) (base := w1.heap.size) ?_ (by omega)
      have hA : w.heap.size < w1.heap.size := by omega
      have hB : w.heap.size + 1 < w1.heap.size := by omega
      exact own_set (own_set (own_set HO5.out hA _) hB _) hB _
end Go.Proofs.Ytojeombljhmkaaa
