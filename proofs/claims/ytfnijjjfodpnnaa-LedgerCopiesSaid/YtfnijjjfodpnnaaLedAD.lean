/- The document's ledger: Free where it frees. -/
import Derived.Test.YtfnijjjfodpnnaaLedAC
namespace Go.Proofs.Ytfnijjjfodpnnaa
open Go.RowKit Go.Shelf
set_option linter.unusedVariables false
set_option linter.unusedSimpArgs false
/-- What is kept across a store into block b: cells elsewhere. -/
theorem cell_set4 {w : World} {b q o : Nat} {v a0 a1 a2 a3 : Value} (h : w.cell? ⟨q, o, none⟩ = some v) (hq : q ≠ b) : ((((w.setCell ⟨b, 0, none⟩ a0).setCell ⟨b, 1, none⟩ a1).setCell ⟨b, 2, none⟩ a2).setCell ⟨b, 3, none⟩ a3).cell? ⟨q, o, none⟩ = some v :=
  (World.cell?_of_block (w := w) (a := ⟨q, o, none⟩) (set4_other hq)).trans h
set_option maxRecDepth 100000 in
set_option maxHeartbeats 2000000 in
theorem free_ref_ok (share room : Int) (ve vl : Value) (es : List En) (gs : List Ling) (i till : Int) (k : Nat) (x : En) (w : World) (h : RefAt w ve vl es gs) (hF : Fine es gs) (h1 : wi i 0 2147483647 = true) (h2 : wi till 0 4611686018427387904 = true) (hk : findN es i = (k : Int)) (hx : es[k]? = some x) :
    Calls Try.prog 31 #[refV share room ve vl, .int .i64 i, .int .i64 till] w fun e w' => (∃ v' vl', e = .returned (.tuple #[refV share room v' vl', .int .i64 0]) ∧ SAt En.cells 3 w' v' (es.take k ++ es.drop (k + 1)) ∧ SAt Ling.cells 2 w' vl' (lingG gs x.r till) ∧ FarS w.heap.size v' ∧ (FarS w.heap.size vl' ∨ (vl' = vl ∧ lingG gs x.r till = gs))) ∧ Below w.heap.size w w' := by
  obtain ⟨A, c, rfl⟩ := h.e.slice
  obtain ⟨A', c', rfl⟩ := h.g.slice
  have hkl : k < es.length := (List.getElem?_eq_some_iff.1 hx).1
  have hel := hF.el
  have hgl := hF.gl
  have hlen := h.e.len
  unfold maxLen at hlen
  have hxe : ∃ b o, A = some ⟨b, o, none⟩ ∧ b < w.heap.size ∧ w.cell? ⟨b, o + k * 3 + 1, none⟩ = some (.int .i64 x.r) := by
    rcases h.e with ⟨h1, h2⟩ | ⟨b, o, c2, h1, _, _, hrow⟩
    · rw [h2] at hkl; simp at hkl
    · injection h1 with h1
      have := (EnAt.ofRow hrow hx).2.1
      exact ⟨b, o, h1, World.block_lt_of_cell? w ⟨b, o + k * 3 + 1, none⟩ this, this⟩
  obtain ⟨b, o, rfl, hbl, hbc⟩ := hxe
  have H := Lib.hid h
  have hwi : 0 ≤ i ∧ i ≤ 2147483647 := by simpa [wi] using h1
  obtain ⟨i1, i2⟩ := hwi
  have n1 : ¬ i < 0 := by omega
  have n2 : ¬ 2147483647 < i := by omega
  have hkn : ¬ ((k : Int) < 0) := by omega
  have hkz : (0 : Int) ≤ (k : Int) := by omega
  have hkz2 : (k : Int) < (es.length : Int) := by omega
  have HX := Lib.hid hx
  have HBC := Lib.hid hbc
  have H2 := Lib.hid h2
  have HFD : Hid (∀ W, Below w.heap.size w W → Calls Try.prog 23 #[refV share room (.slice (some ⟨b, o, none⟩) es.length c) (.slice A' gs.length c'), .int .i64 i] W fun e w' => e = .returned (.int .i64 (k : Int)) ∧ Below W.heap.size W w') := Lib.hid fun W hW => by
    have := find_ref share room _ _ es gs i W (h.below hW)
    rw [hk] at this
    exact this
  have hb1 := bl_alloc (bl_alloc (Below.refl w.heap.size w) (.cells #[.int .i64 share, .int .i64 room, .slice (some ⟨b, o, none⟩) es.length c, .slice A' gs.length c'] 36)) (.cells #[.int .i64 0, .int .i64 0, .slice none 0 0, .slice none 0 0] 36)
  have hk4 : ((w.alloc (.cells #[.int .i64 share, .int .i64 room, .slice (some ⟨b, o, none⟩) es.length c, .slice A' gs.length c'] 36)).alloc (.cells #[.int .i64 0, .int .i64 0, .slice none 0 0, .slice none 0 0] 36)).heap[w.heap.size]? = some (.cells #[.int .i64 share, .int .i64 room, .slice (some ⟨b, o, none⟩) es.length c, .slice A' gs.length c'] 36 (0, 0)) := ((bl_alloc (Below.refl _ _) _).block w.heap.size (by simp)).trans (at_alloc rfl)
  have hk5 : ((w.alloc (.cells #[.int .i64 share, .int .i64 room, .slice (some ⟨b, o, none⟩) es.length c, .slice A' gs.length c'] 36)).alloc (.cells #[.int .i64 0, .int .i64 0, .slice none 0 0, .slice none 0 0] 36)).heap[w.heap.size + 1]? = some (.cells #[.int .i64 0, .int .i64 0, .slice none 0 0, .slice none 0 0] 36 (0, 0)) := at_alloc (by simp)
  have HB1 := Lib.hid hb1
  have HK4 := Lib.hid hk4
  have HK5 := Lib.hid hk5
  clear h hb1 hk hx hF h1 h2 hbc hk4 hk5
  go_enter Try.func31, Try.ntmps31
  go_wp2_with (go_at_call 53; refine (tick_ref _ _).mono ?_; rintro e w' ⟨rfl, rfl⟩; rw [H2.out])
  generalize ((w.alloc (.cells #[.int .i64 share, .int .i64 room, .slice (some ⟨b, o, none⟩) es.length c, .slice A' gs.length c'] 36)).alloc (.cells #[.int .i64 0, .int .i64 0, .slice none 0 0, .slice none 0 0] 36)) = w1 at HB1 HK4 HK5 ⊢
  refine (HFD.out _ HB1.out).mono ?_
  rintro e w2 ⟨rfl, hb2⟩
  have hz1 := HB1.out.size
  have hk42 := (hb2.block w.heap.size (Array.getElem?_eq_some_iff.1 HK4.out).1).trans HK4.out
  have hk52 := (hb2.block (w.heap.size + 1) (Array.getElem?_eq_some_iff.1 HK5.out).1).trans HK5.out
  have hbw2 := bl_then HB1.out hb2
  have HK42 := Lib.hid hk42
  have HK52 := Lib.hid hk52
  have HBW2 := Lib.hid hbw2
  have hz52 := (Array.getElem?_eq_some_iff.1 hk52).1
  clear hb2 hk42 hk52 hbw2
  generalize hes : es.take k ++ es.drop (k + 1) = es'
  generalize hgs : lingG gs x.r till = gs'
  have HES := Lib.hid hes
  have HGS := Lib.hid hgs
  clear hes hgs
  go_upto_region 6 with fail
  have HS : Hid (∀ W, Below w2.heap.size w2 W → (fun w' => w'.cell? ⟨w.heap.size, 0, none⟩ = some (.int .i64 share) ∧ w'.cell? ⟨w.heap.size, 1, none⟩ = some (.int .i64 room) ∧ w'.cell? ⟨w.heap.size, 2, none⟩ = some (.slice (some ⟨b, o, none⟩) es.length c) ∧ w'.cell? ⟨w.heap.size, 3, none⟩ = some (.slice A' gs.length c') ∧ w'.cell? ⟨b, o + k * 3 + 1, none⟩ = some (.int .i64 x.r)) W) := Lib.hid fun W hW =>
    ⟨bl_cell hW (by rw [cell_blk HK42.out]; rfl), bl_cell hW (by rw [cell_blk HK42.out]; rfl), bl_cell hW (by rw [cell_blk HK42.out]; rfl), bl_cell hW (by rw [cell_blk HK42.out]; rfl), bl_cell hW (bl_cell HBW2.out HBC.out)⟩
  have HS2 : Hid (∀ W a0 a1 a2 a3, Below w2.heap.size w2 W → (fun w' => w'.cell? ⟨w.heap.size, 0, none⟩ = some (.int .i64 share) ∧ w'.cell? ⟨w.heap.size, 1, none⟩ = some (.int .i64 room) ∧ w'.cell? ⟨w.heap.size, 2, none⟩ = some (.slice (some ⟨b, o, none⟩) es.length c) ∧ w'.cell? ⟨w.heap.size, 3, none⟩ = some (.slice A' gs.length c') ∧ w'.cell? ⟨b, o + k * 3 + 1, none⟩ = some (.int .i64 x.r)) ((((W.setCell ⟨w.heap.size + 1, 0, none⟩ a0).setCell ⟨w.heap.size + 1, 1, none⟩ a1).setCell ⟨w.heap.size + 1, 2, none⟩ a2).setCell ⟨w.heap.size + 1, 3, none⟩ a3)) := Lib.hid fun W a0 a1 a2 a3 hW => by
    obtain ⟨q0, q1, q2, q3, q4⟩ := HS.out W hW
    exact ⟨cell_set4 q0 (by omega), cell_set4 q1 (by omega), cell_set4 q2 (by omega), cell_set4 q3 (by omega), cell_set4 q4 (by omega)⟩
  first
  | go_region_held3 (fun w' => w'.cell? ⟨w.heap.size, 0, none⟩ = some (.int .i64 share) ∧ w'.cell? ⟨w.heap.size, 1, none⟩ = some (.int .i64 room) ∧ w'.cell? ⟨w.heap.size, 2, none⟩ = some (.slice (some ⟨b, o, none⟩) es.length c) ∧ w'.cell? ⟨w.heap.size, 3, none⟩ = some (.slice A' gs.length c') ∧ w'.cell? ⟨b, o + k * 3 + 1, none⟩ = some (.int .i64 x.r))
      (first
        | exact HS.out _ (by solve | exact hbw4 | exact hbw3 | exact bl_drew (Below.refl _ _))
        | exact HS2.out _ _ _ _ _ hbw4)
      (first
        | (go_at_call 56; refine (without_ref share room _ _ es gs k _ (H.out.below (bl_then HBW2.out (by repeat (first | exact Below.refl _ _ | refine bl_drew ?_ | refine bl_drewN ?_ _)))) hkl (by omega)).mono ?_; rintro e w3 ⟨⟨v3, rfl, hs3, hf3⟩, hb3⟩; have hbw3 : Below w2.heap.size w2 w3 := (bl_drew (Below.refl _ _)).trans hb3; rw [HES.out] at hs3; obtain ⟨A3, c3, rfl⟩ := hs3.slice; have HS3 := Lib.hid hs3; have HF3 := Lib.hid hf3; clear hs3 hf3)
        | (go_at_call 57; refine (linger_ref share room _ _ es' gs x.r till _ ⟨HS3.out, H.out.g.below (bl_then HBW2.out hbw3)⟩ (by omega)).mono ?_; rintro e w4 ⟨⟨v4, rfl, hs4, hf4⟩, hb4⟩; have hbw4 : Below w2.heap.size w2 w4 := bl_then hbw3 hb4; rw [HGS.out] at hs4; obtain ⟨A4, c4, rfl⟩ := hs4.slice; have HS4 := Lib.hid hs4; have HF4 := Lib.hid hf4; have HSE4 := Lib.hid (HS3.out.below hb4); obtain ⟨o0, o1, o2, o3, f0, f1, f2, f3⟩ := ref_cells ((hbw4.block (w.heap.size + 1) hz52).trans HK52.out); clear hs4 hf4))
  | fail "held3"
  all_goals
    have HBW4 := Lib.hid hbw4
    have HZ3 := Lib.hid hbw3.size
    have hz4 := hbw4.size
    have hz2 := HBW2.out.size
    have HK54 := Lib.hid ((hbw4.block (w.heap.size + 1) hz52).trans HK52.out)
    clear hbw4 hb4 hb3 hbw3
    go_wp2_with fail
    have S4 := set4 (a0 := .int .i64 share) (a1 := .int .i64 room) (a2 := .slice A3 es'.length c3) (a3 := .slice A4 gs'.length c4) HK54.out
    have s0 := S4 0 _ rfl
    have s1 := S4 1 _ rfl
    have s2 := S4 2 _ rfl
    have s3 := S4 3 _ rfl
    refine bodyPost_ret (v := .tuple #[refV share room (.slice A3 es'.length c3) (.slice A4 gs'.length c4), .int .i64 0]) (by simp [results, Try.results31, go_sem, s0, s1, s2, s3]) rfl ⟨⟨_, _, rfl, ?_, ?_, HF3.out.mono hz2, ?_⟩, ?_⟩
    · rw [HES.out]
      refine sat_set4 HSE4.out (fun q o n c hv => ?_)
      have hq : w2.heap.size ≤ q := HF3.out q o n c hv
      omega
    · rw [HGS.out]
      rcases HF4.out with hh | ⟨hv, hg⟩
      · refine sat_set4 HS4.out (fun q o n c hv => ?_)
        have hq := hh q o n c hv
        have := HZ3.out
        omega
      · rw [hv, ← HGS.out, hg]
        exact H.out.g.below (by repeat (first | exact bl_then HBW2.out HBW4.out | refine bl_set ?_ (by simp <;> omega) _))
    · rcases HF4.out with hh | ⟨hv, hg⟩
      · exact Or.inl (hh.mono (by have := HZ3.out; omega))
      · exact Or.inr ⟨hv, by rw [HGS.out] at hg ⊢; exact hg⟩
    · repeat (first | exact bl_then HBW2.out HBW4.out | refine bl_set ?_ (by simp <;> omega) _)
end Go.Proofs.Ytfnijjjfodpnnaa
