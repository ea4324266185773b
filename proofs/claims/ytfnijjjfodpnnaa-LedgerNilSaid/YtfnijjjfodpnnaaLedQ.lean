/- Ledger: a ledger that is not there. -/
import Derived.Test.YtfnijjjfodpnnaaLedI
namespace Go.Proofs.Ytfnijjjfodpnnaa
open Go.RowKit Go.Shelf

/-- v is no ledger: nil, or one with no map. -/
def NoLed (w : World) (v : Value) : Prop := v = .pointer none ∨ ∃ p, v = .pointer (some ⟨p, 0, none⟩) ∧ w.cell? ⟨p, 2, none⟩ = some (.map none)
theorem NoLed.below {w W : World} {v : Value} (h : NoLed w v) (hb : Below w.heap.size w W) : NoLed W v := by
  rcases h with h | ⟨p, h1, h2⟩
  · exact Or.inl h
  · exact Or.inr ⟨p, h1, bl_cell hb h2⟩
set_option maxHeartbeats 400000 in
theorem none_yes (v : Value) (w : World) (h : NoLed w v) :
    Calls Try.prog 32 #[v] w fun e w' => e = .returned (.bool true) ∧ w = w' := by
  have k1 := fun (w : World) (a : Option Nat) => run_eql_map_nil (P := Try.prog) w 62 _ _ a Try.underlying62
  rcases h with rfl | ⟨p, rfl, h⟩
  · go_enter Try.func32, Try.ntmps32
    go_wp2
    go_ret
    exact ⟨rfl, rfl⟩
  · go_enter Try.func32, Try.ntmps32
    go_wp2
    go_ret
    exact ⟨rfl, rfl⟩
set_option maxHeartbeats 400000 in
theorem get_nil (v : Value) (i : Int) (w : World) (h : NoLed w v) :
    Calls Try.prog 19 #[v, .int .i64 i] w fun e w' => e = .returned (.tuple #[.agg #[.int .i64 0, .int .i64 0, .int .i64 0], .bool false]) ∧ Below w.heap.size w w' := by
  have hb := bl_alloc (Below.refl w.heap.size w) (.cells #[.int .i64 0, .int .i64 0, .int .i64 0] 30)
  have hn := none_yes v _ (h.below hb)
  go_enter Try.func19, Try.ntmps19
  go_wp2_with (go_at_call 32; refine hn.mono ?_; rintro e w' ⟨rfl, rfl⟩)
  exact bodyPost_ret (v := .tuple #[.agg #[.int .i64 0, .int .i64 0, .int .i64 0], .bool false]) (by simp [results, Try.results19, go_sem]) rfl ⟨rfl, by repeat (first | exact Below.refl _ _ | refine bl_alloc ?_ _ | refine bl_set ?_ (by simp) _)⟩
set_option maxHeartbeats 400000 in
theorem taken_nil (v : Value) (i : Int) (w : World) (h : NoLed w v) :
    Calls Try.prog 13 #[v, .int .i64 i] w fun e w' => e = .returned (.tuple #[.int .i64 0, .int .i64 0, .int .i64 1]) ∧ w = w' := by
  have hn := none_yes v _ h
  go_enter Try.func13, Try.ntmps13
  go_wp2_with (go_at_call 32; refine hn.mono ?_; rintro e w' ⟨rfl, rfl⟩)
  exact bodyPost_ret (v := .tuple #[.int .i64 0, .int .i64 0, .int .i64 1]) (by simp [results, Try.results13, go_sem]) rfl ⟨rfl, rfl⟩
set_option maxHeartbeats 400000 in
theorem noled_ptr {w : World} {v : Value} (h : NoLed w v) : ∃ a, v = .pointer a := by
  rcases h with h | ⟨p, h, _⟩
  · exact ⟨none, h⟩
  · exact ⟨_, h⟩
set_option maxHeartbeats 400000 in
theorem fits_nil (v : Value) (x : En) (i : Int) (w : World) (h : NoLed w v) :
    Calls Try.prog 16 #[v, .agg #[.int .i64 x.i, .int .i64 x.r, .int .i64 x.m], .int .i64 i] w fun e w' => e = .returned (.int .i64 1) ∧ Below w.heap.size w w' := by
  obtain ⟨a, rfl⟩ := noled_ptr h
  have hb := bl_alloc (bl_alloc (bl_alloc (Below.refl w.heap.size w) (.cells #[.pointer a] 25)) (.cells #[.int .i64 x.i, .int .i64 x.r, .int .i64 x.m] 30)) (.cells #[.int .i64 i] 2)
  have hn := none_yes _ _ (h.below hb)
  go_enter Try.func16, Try.ntmps16
  go_wp2_with (go_at_call 32; refine hn.mono ?_; rintro e w' ⟨rfl, rfl⟩)
  go_ret
  exact ⟨rfl, hb⟩
set_option maxHeartbeats 400000 in
theorem give_nil (v : Value) (x : En) (i : Int) (w : World) (h : NoLed w v) :
    Calls Try.prog 14 #[v, .agg #[.int .i64 x.i, .int .i64 x.r, .int .i64 x.m], .int .i64 i] w fun e w' => e = .returned (.int .i64 1) ∧ Below w.heap.size w w' := by
  have hb := bl_alloc (Below.refl w.heap.size w) (.cells #[.int .i64 x.i, .int .i64 x.r, .int .i64 x.m] 30)
  have hn := fits_nil v x i _ (h.below hb)
  go_enter Try.func14, Try.ntmps14
  go_wp2_with (go_at_call 16; refine hn.mono ?_; rintro e w' ⟨rfl, hb2⟩)
  go_ret
  exact ⟨rfl, hb.trans (hb2.mono (by simp))⟩
set_option maxHeartbeats 400000 in
theorem change_nil (v : Value) (x : En) (i j : Int) (w : World) (h : NoLed w v) :
    Calls Try.prog 26 #[v, .agg #[.int .i64 x.i, .int .i64 x.r, .int .i64 x.m], .int .i64 i, .int .i64 j] w fun e w' => e = .returned (.int .i64 1) ∧ Below w.heap.size w w' := by
  have hb := bl_alloc (bl_alloc (bl_alloc (Below.refl w.heap.size w) (.cells #[.int .i64 x.i, .int .i64 x.r, .int .i64 x.m] 30)) (.cells #[.int .i64 i] 2)) (.cells #[.int .i64 j] 2)
  have hn := none_yes _ _ (h.below hb)
  go_enter Try.func26, Try.ntmps26
  go_wp2_with (go_at_call 32; refine hn.mono ?_; rintro e w' ⟨rfl, rfl⟩)
  go_ret
  exact ⟨rfl, hb⟩
set_option maxHeartbeats 400000 in
theorem free_nil (v : Value) (i j : Int) (w : World) (h : NoLed w v) :
    Calls Try.prog 15 #[v, .int .i64 i, .int .i64 j] w fun e w' => e = .returned (.int .i64 1) ∧ w = w' := by
  have hn := none_yes v _ h
  go_enter Try.func15, Try.ntmps15
  go_wp2_with (go_at_call 32; refine hn.mono ?_; rintro e w' ⟨rfl, rfl⟩)
  go_ret
  exact ⟨rfl, rfl⟩
set_option maxHeartbeats 400000 in
theorem all_nil (v : Value) (w : World) (h : NoLed w v) :
    Calls Try.prog 20 #[v] w fun e w' => e = .returned (.slice none 0 0) ∧ w = w' := by
  have hn := none_yes v _ h
  go_enter Try.func20, Try.ntmps20
  go_wp2_with (go_at_call 32; refine hn.mono ?_; rintro e w' ⟨rfl, rfl⟩)
  go_ret
  exact ⟨rfl, rfl⟩
set_option maxHeartbeats 400000 in
theorem copy_nil (v : Value) (w : World) (h : NoLed w v) :
    Calls Try.prog 17 #[v] w fun e w' => e = .returned (.pointer none) ∧ w = w' := by
  have hn := none_yes v _ h
  go_enter Try.func17, Try.ntmps17
  go_wp2_with (go_at_call 32; refine hn.mono ?_; rintro e w' ⟨rfl, rfl⟩)
  go_ret
  exact ⟨rfl, rfl⟩
set_option maxRecDepth 100000 in
set_option maxHeartbeats 400000 in
theorem same_nil (v v' : Value) (w : World) (h : NoLed w v) (h' : NoLed w v') :
    Calls Try.prog 18 #[v, v'] w fun e w' => e = .returned (.bool true) ∧ w = w' := by
  have hn : ∀ u, (u = v ∨ u = v') → _ := fun u hu => none_yes u w (hu.elim (fun e => e ▸ h) (fun e => e ▸ h'))
  go_enter Try.func18, Try.ntmps18
  go_wp2_with (go_at_call 32; refine (hn _ (by first | exact Or.inl rfl | exact Or.inr rfl)).mono ?_; rintro e w' ⟨rfl, rfl⟩)
  go_ret
  exact ⟨rfl, rfl⟩
set_option maxRecDepth 100000 in
set_option maxHeartbeats 2000000 in
theorem ledgerNil_any (x : En) (now : Int) (w : World) :
    Calls Try.prog 9 #[.agg #[.int .i64 x.i, .int .i64 x.r, .int .i64 x.m], .int .i64 now] w fun e w' => e = .returned (.bool true) ∧ Below w.heap.size w w' := by
  have hn : ∀ W, NoLed W (.pointer none) := fun W => Or.inl rfl
  have hb0 := bl_alloc (bl_alloc (Below.refl w.heap.size w) (.cells #[.int .i64 x.i, .int .i64 x.r, .int .i64 x.m] 30)) (.cells #[.int .i64 0, .int .i64 0, .map none, .slice none 0 0] 65)
  have hz0 : ((w.alloc (.cells #[.int .i64 x.i, .int .i64 x.r, .int .i64 x.m] 30)).alloc (.cells #[.int .i64 0, .int .i64 0, .map none, .slice none 0 0] 65)).cell? ⟨w.heap.size + 1, 2, none⟩ = some (.map none) := by go_simp
  have hx0 : EnAt ((w.alloc (.cells #[.int .i64 x.i, .int .i64 x.r, .int .i64 x.m] 30)).alloc (.cells #[.int .i64 0, .int .i64 0, .map none, .slice none 0 0] 65)) w.heap.size 0 x := ⟨by go_simp, by go_simp, by go_simp⟩
  have HB0 := Lib.hid hb0
  have HZ0 := Lib.hid hz0
  have HX0 := Lib.hid hx0
  clear hb0 hz0 hx0
  go_enter Try.func9, Try.ntmps9
  go_upto_region 3 with fail
  generalize (w.alloc (.cells #[.int .i64 x.i, .int .i64 x.r, .int .i64 x.m] 30)).alloc (.cells #[.int .i64 0, .int .i64 0, .map none, .slice none 0 0] 65) = w0 at HB0 HZ0 HX0 ⊢
  have hx0 := HX0.out
  obtain ⟨x0, x1, x2⟩ := hx0
  have hbz : w.heap.size + 1 < w0.heap.size := World.block_lt_of_cell? w0 ⟨_, 2, none⟩ HZ0.out
  go_wp2_with fail
  refine (get_nil _ x.i _ (hn _)).mono ?_
  rintro e w1 ⟨rfl, hb1⟩
  have hs1 := hb1.size
  have HB1 := Lib.hid hb1
  have hz1 := bl_alloc hb1 (.cells #[.int .i64 0, .int .i64 0, .int .i64 0] 30)
  have HZ1 := Lib.hid (bl_cell hz1 HZ0.out)
  have HX1 := Lib.hid (HX0.out.below hz1)
  have HB2 := Lib.hid hz1
  clear x0 x1 x2 hb1 hz1
  go_upto_region 4 with fail
  generalize w1.alloc (.cells #[.int .i64 0, .int .i64 0, .int .i64 0] 30) = wA at HZ1 HX1 HB2 ⊢
  have hbw : Hid (Below w.heap.size w wA) := Lib.hid (bl_then HB0.out HB2.out)
  have hsA := HB2.out.size
  go_wp2_with fail
  refine (taken_nil _ now _ (Or.inr ⟨_, rfl, HZ1.out⟩)).mono ?_
  rintro e w2 ⟨rfl, rfl⟩
  obtain ⟨x0, x1, x2⟩ := HX1.out
  go_wp2_with fail
  refine (fits_nil _ x now _ (hn _)).mono ?_
  rintro e w3 ⟨rfl, hb3⟩
  have HZ3 := Lib.hid (bl_cell hb3 HZ1.out)
  have HX3 := Lib.hid (HX1.out.below hb3)
  have HB3 := Lib.hid (bl_then hbw.out hb3)
  have hs3 := hb3.size
  obtain ⟨y0, y1, y2⟩ := HX3.out
  clear hb3 x0 x1 x2
  go_wp2_with fail
  refine (give_nil _ x now _ (Or.inr ⟨_, rfl, HZ3.out⟩)).mono ?_
  rintro e w4 ⟨rfl, hb4⟩
  have HZ4 := Lib.hid (bl_cell hb4 HZ3.out)
  have HX4 := Lib.hid (HX3.out.below hb4)
  have HB4 := Lib.hid (bl_then HB3.out hb4)
  have hs4 := hb4.size
  obtain ⟨x0, x1, x2⟩ := HX4.out
  clear hb4 y0 y1 y2
  go_wp2_with fail
  refine (change_nil _ x now now _ (hn _)).mono ?_
  rintro e w5 ⟨rfl, hb5⟩
  have HZ5 := Lib.hid (bl_cell hb5 HZ4.out)
  have HX5 := Lib.hid (HX4.out.below hb5)
  have HB5 := Lib.hid (bl_then HB4.out hb5)
  have hs5 := hb5.size
  obtain ⟨y0, y1, y2⟩ := HX5.out
  clear hb5 x0 x1 x2
  go_wp2_with (first
    | (go_at_call 15; refine (free_nil _ x.i now _ (Or.inr ⟨_, rfl, HZ5.out⟩)).mono ?_; rintro e w' ⟨rfl, rfl⟩)
    | (go_at_call 20; refine (all_nil _ _ (hn _)).mono ?_; rintro e w' ⟨rfl, rfl⟩)
    | (go_at_call 17; refine (copy_nil _ _ (Or.inr ⟨_, rfl, HZ5.out⟩)).mono ?_; rintro e w' ⟨rfl, rfl⟩)
    | (go_at_call 18; refine (same_nil _ _ _ (hn _) (Or.inr ⟨_, rfl, HZ5.out⟩)).mono ?_; rintro e w' ⟨rfl, rfl⟩)
    | (go_at_call 10; refine (known_any _).mono ?_; rintro e w' ⟨rfl, hb⟩))
  go_ret
  exact ⟨rfl, bl_then HB5.out hb⟩
end Go.Proofs.Ytfnijjjfodpnnaa
