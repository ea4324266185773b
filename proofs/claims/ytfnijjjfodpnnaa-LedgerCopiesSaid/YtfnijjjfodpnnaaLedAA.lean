/- The document's ledger: without, with, linger. -/
import Derived.Test.YtfnijjjfodpnnaaLedU
import Derived.Test.YtfnijjjfodpnnaaApp
import Derived.Deep.RegionHeld3
import Derived.IntWalk
namespace Go.Proofs.Ytfnijjjfodpnnaa
open Go.RowKit Go.Shelf
set_option linter.unusedVariables false
set_option linter.unusedSimpArgs false
theorem elEn : ElT Try.prog 33 30 3 24 (.agg #[.int .i64 0, .int .i64 0, .int .i64 0]) := ElT.mk' Try.underlying33 (by kernel_rfl) rfl (by decide)
theorem oneEn (x : En) : ∀ u ∈ En.cells x, u.oneCell' = true := fun u hu => by simp [En.cells] at hu; rcases hu with rfl | rfl | rfl <;> rfl
theorem own_form {w : World} {base e k n : Nat} {v : Value} {cs : List Value} (h : w.ownsRow base e k v n cs) : ∃ A c, v = .slice A n c := by
  rcases h.2 with ⟨rfl, rfl⟩ | ⟨g, cap, cur, rfl, _⟩
  · exact ⟨none, 0, rfl⟩
  · exact ⟨_, _, rfl⟩
/-- A slice whose memory lies at or above B. -/
def FarS (B : Nat) (v : Value) : Prop := ∀ b o n c, v = .slice (some ⟨b, o, none⟩) n c → B ≤ b
theorem FarS.own {w : World} {base e k n : Nat} {v : Value} {cs : List Value} (h : w.ownsRow base e k v n cs) {B : Nat} (hB : B ≤ base) : FarS B v := fun b o n c hv => by
  subst hv
  have := (h.lt b rfl).1
  omega
theorem FarS.mono {B B' : Nat} {v : Value} (h : FarS B v) (hB : B' ≤ B) : FarS B' v := fun b o n c hv => Nat.le_trans hB (h b o n c hv)
set_option maxRecDepth 100000 in
set_option maxHeartbeats 1000000 in
theorem without_ref (share room : Int) (ve vl : Value) (es : List En) (gs : List Ling) (j : Nat) (w : World) (h : RefAt w ve vl es gs) (hj : j < es.length) (hl : es.length ≤ 1000) :
    Calls Try.prog 56 #[refV share room ve vl, .int .i64 (j : Int)] w fun e w' => (∃ v', e = .returned (refV share room v' vl) ∧ SAt En.cells 3 w' v' (es.take j ++ es.drop (j + 1)) ∧ FarS w.heap.size v') ∧ Below w.heap.size w w' := by
  obtain ⟨A, c, rfl⟩ := h.e.slice
  obtain ⟨A', c', rfl⟩ := h.g.slice
  obtain ⟨v1, hr1, hs1⟩ := run_slice_to elEn h.e j (by omega)
  obtain ⟨v2, hr2, hs2⟩ := run_slice_from elEn h.e (j + 1) (by omega)
  have hj1 : IntKind.i64.wrap ((j : Int) + 1) = (j : Int) + 1 := by rw [IntWalk.i64_in _ (by omega)]
  rw [show ((j + 1 : Nat) : Int) = (j : Int) + 1 from by simp] at hr2
  have HS1 := Lib.hid hs1
  have HS2 := Lib.hid hs2
  have hB0 := bl_alloc (bl_alloc (Below.refl w.heap.size w) (.cells #[.int .i64 share, .int .i64 room, .slice A es.length c, .slice A' gs.length c'] 36)) (.cells #[.int .i64 0, .int .i64 0, .slice none 0 0, .slice none 0 0] 36)
  have hk4 : ((w.alloc (.cells #[.int .i64 share, .int .i64 room, .slice A es.length c, .slice A' gs.length c'] 36)).alloc (.cells #[.int .i64 0, .int .i64 0, .slice none 0 0, .slice none 0 0] 36)).heap[w.heap.size]? = some (.cells #[.int .i64 share, .int .i64 room, .slice A es.length c, .slice A' gs.length c'] 36 (0, 0)) := ((bl_alloc (Below.refl _ _) _).block w.heap.size (by simp)).trans (at_alloc rfl)
  have hk5 : ((w.alloc (.cells #[.int .i64 share, .int .i64 room, .slice A es.length c, .slice A' gs.length c'] 36)).alloc (.cells #[.int .i64 0, .int .i64 0, .slice none 0 0, .slice none 0 0] 36)).heap[w.heap.size + 1]? = some (.cells #[.int .i64 0, .int .i64 0, .slice none 0 0, .slice none 0 0] 36 (0, 0)) := at_alloc (by simp)
  have HB0 := Lib.hid hB0
  have HK4 := Lib.hid hk4
  have HK5 := Lib.hid hk5
  clear h hs1 hs2 hB0 hk4 hk5
  go_enter Try.func56, Try.ntmps56
  go_upto_region 1 with fail
  have HW0S : Hid (((w.alloc (.cells #[.int .i64 share, .int .i64 room, .slice A es.length c, .slice A' gs.length c'] 36)).alloc (.cells #[.int .i64 0, .int .i64 0, .slice none 0 0, .slice none 0 0] 36)).heap.size = w.heap.size + 2) := Lib.hid (by simp)
  generalize ((w.alloc (.cells #[.int .i64 share, .int .i64 room, .slice A es.length c, .slice A' gs.length c'] 36)).alloc (.cells #[.int .i64 0, .int .i64 0, .slice none 0 0, .slice none 0 0] 36)) = w0 at HB0 HK4 HK5 HW0S ⊢
  have hc2 : w0.cell? ⟨w.heap.size, 2, none⟩ = some (.slice A es.length c) := by rw [cell_blk HK4.out]; rfl
  have HX : Hid (∀ W, Below w0.heap.size w0 W → W.cell? ⟨w.heap.size, 2, none⟩ = some (.slice A es.length c) ∧ W.frozen? ⟨w.heap.size, 2, none⟩ = false) := Lib.hid fun W hW =>
    ⟨bl_cell hW hc2, (hW.frozen (p := ⟨w.heap.size, 2, none⟩) (by have := HW0S.out; show w.heap.size < _; omega)).trans (by simp [World.frozen?, HK4.out])⟩
  go_region_law (first
    | (refine step_app rfl _ (.tmp 8) rfl elEn (fun _ => rfl) oneEn (base := w0.heap.size) (n := 0) (xs := ([] : List En)) (ys := es.take j) rfl rfl rfl (World.ownsRow_nil _ _ _ _) ?_ (Nat.le_refl _) (by simp [maxLen]; omega) (by simp; omega) ?_; (· exact HS1.out.below (bl_then HB0.out (by repeat (first | exact Below.refl _ _ | exact hb1 | exact bl_drew hb1 | refine bl_drew ?_ | refine bl_drewN ?_ _)))); intro v' w' hown1 hb1; generalize hn1 : ([] ++ es.take j).length = n1 at hown1; have HN1 := Lib.hid hn1; clear hn1; obtain ⟨A1, c1, rfl⟩ := own_form hown1; have hb1 : Below w0.heap.size w0 w' := (bl_drew (Below.refl _ _)).trans hb1; obtain ⟨hcx, hfx⟩ := HX.out w' hb1)
    | (refine step_app rfl (.tmp 9) (.tmp 14) rfl elEn (fun _ => rfl) oneEn (xs := [] ++ es.take j) (ys := es.drop (j + 1)) rfl rfl HN1.out.symm hown1 ?_ hb1.size (by simp [maxLen]; omega) (by simp; omega) ?_; (· exact HS2.out.below (bl_then HB0.out (by repeat (first | exact Below.refl _ _ | exact hb1 | exact bl_drew hb1 | refine bl_drew ?_ | refine bl_drewN ?_ _)))); intro v' w' hown2 hb2; generalize hn2 : ([] ++ es.take j ++ es.drop (j + 1)).length = n2 at hown2; have HN2 := Lib.hid hn2; clear hn2; obtain ⟨A2, c2, rfl⟩ := own_form hown2; have hb2 : Below w0.heap.size w0 w' := hb1.trans hb2; obtain ⟨hcy, hfy⟩ := HX.out w' hb2))
  all_goals
    have hz0 := HW0S.out
    have hz2 := hb2.size
    have hbk4 := (hb2.block w.heap.size (by omega)).trans HK4.out
    have hbk5 := (hb2.block (w.heap.size + 1) (by omega)).trans HK5.out
    obtain ⟨o0, o1, o2, o3, f0, f1, f2, f3⟩ := ref_cells hbk5
    have l0 : w'.cell? ⟨w.heap.size, 0, none⟩ = some (.int .i64 share) := by rw [cell_blk hbk4]; rfl
    have l1 : w'.cell? ⟨w.heap.size, 1, none⟩ = some (.int .i64 room) := by rw [cell_blk hbk4]; rfl
    have l3 : w'.cell? ⟨w.heap.size, 3, none⟩ = some (.slice A' gs.length c') := by rw [cell_blk hbk4]; rfl
    have HOWN := Lib.hid hown2
    have HB2 := Lib.hid hb2
    have HBK5 : Hid ((w'.setCell ⟨w.heap.size, 2, none⟩ (.slice A2 n2 c2)).heap[w.heap.size + 1]? = some (.cells #[.int .i64 0, .int .i64 0, .slice none 0 0, .slice none 0 0] 36 (0, 0))) := Lib.hid ((Below.heap_setCell _ _ _ _ (by show w.heap.size + 1 ≠ w.heap.size; omega)).trans hbk5)
    clear hbk4 hbk5 hown2 hb2 hown1 hb1 hr1 hr2 hcx hfx hc2
    go_wp2_with fail
    have S4 := set4 (a0 := .int .i64 share) (a1 := .int .i64 room) (a2 := .slice A2 n2 c2) (a3 := .slice A' gs.length c') HBK5.out
    have s0 := S4 0 _ rfl
    have s1 := S4 1 _ rfl
    have s2 := S4 2 _ rfl
    have s3 := S4 3 _ rfl
    refine bodyPost_ret (v := refV share room (.slice A2 n2 c2) (.slice A' gs.length c')) (by simp [results, Try.results56, go_sem, s0, s1, s2, s3]) rfl ⟨⟨_, rfl, ?_, FarS.own HOWN.out (by omega)⟩, ?_⟩
    · have hfin := ownsRow_setCell_below (ownsRow_setCell_below (ownsRow_setCell_below (ownsRow_setCell_below (ownsRow_setCell_below HOWN.out (a := ⟨w.heap.size, 2, none⟩) (by show w.heap.size < _; omega) (.slice A2 n2 c2)) (a := ⟨w.heap.size + 1, 0, none⟩) (by show w.heap.size + 1 < _; omega) (.int .i64 share)) (a := ⟨w.heap.size + 1, 1, none⟩) (by show w.heap.size + 1 < _; omega) (.int .i64 room)) (a := ⟨w.heap.size + 1, 2, none⟩) (by show w.heap.size + 1 < _; omega) (.slice A2 n2 c2)) (a := ⟨w.heap.size + 1, 3, none⟩) (by show w.heap.size + 1 < _; omega) (.slice A' gs.length c')
      have := SAt.ofOwn (enc := En.cells) (k := 3) (fun _ => rfl) HN2.out hfin
      simpa using this
    · have hbw : Below w.heap.size w w' := HB0.out.trans (HB2.out.mono (by omega))
      repeat (first | exact hbw | refine bl_set ?_ (by simp <;> omega) _)
end Go.Proofs.Ytfnijjjfodpnnaa
