/- Soft: Keep, refused. -/
import Derived.Test.YtojeombljhmkaaaSoftC
import Derived.Test.YtojeombljhmkaaaGoto
namespace Go.Proofs.Ytojeombljhmkaaa
open Go.RowKit Go.Shelf
set_option linter.unusedVariables false
set_option linter.unusedSimpArgs false
attribute [local go_sem] Oper.semAt_some
set_option maxHeartbeats 400000 in
theorem keep_none (v : Value) (s : ByteArray) (n : Int) (w : World) (h : NoTab w v) :
    Calls Try.prog 11 #[v, .string s, .int .i64 n] w fun e w' => e = .returned (.tuple #[.bool false, .int .i64 1]) ∧ w = w' := by
  have hn := none_yes v w h
  clear h
  go_enter Try.func11, Try.ntmps11
  go_wp2
  refine wp_scope_fwd 0 rfl ?_
  go_wp2_with (go_at_call 30; refine hn.mono ?_; rintro e w' ⟨rfl, rfl⟩)
  refine wp_goto ?_; show (0 = 0 ∧ _); refine ⟨rfl, ?_⟩; go_wp2; rw [Exit.noGoto_ret]; go_ret2
  exact ⟨rfl, rfl⟩
set_option maxHeartbeats 400000 in
theorem keep_arg (p r : Nat) (now : Int) (es : List (Nat × Th)) (s : ByteArray) (n : Int) (w : World) (h : TAt w p r now es) (hq : namedB s = false ∨ lifeI n = 0) :
    Calls Try.prog 11 #[.pointer (some ⟨p, 0, none⟩), .string s, .int .i64 n] w fun e w' => e = .returned (.tuple #[.bool false, .int .i64 2]) ∧ Below w.heap.size w w' := by
  obtain ⟨c0, c1⟩ := h.cells
  have HNA := Lib.hid (named_any s w.heap.size (w.alloc (.cells #[.string s] 9)) (by go_simp))
  have HN := Lib.hid (none_no p r w c1)
  clear c0 c1 h
  cases hn : namedB s with
  | false =>
    rw [hn] at HNA
    clear hq hn
    go_enter Try.func11, Try.ntmps11
    go_wp2
    refine wp_scope_fwd 0 rfl ?_
    go_wp2_with (first | (go_at_call 30; refine HN.out.mono ?_; rintro e w' ⟨rfl, rfl⟩) | (go_at_call 31; refine HNA.out.mono ?_; rintro e w1 ⟨rfl, hb⟩; have HB1 := Lib.hid (bl_then (bl_alloc (Below.refl _ _) _) hb); clear hb))
    refine wp_goto ?_; show (0 = 0 ∧ _); refine ⟨rfl, ?_⟩; go_wp2; rw [Exit.noGoto_ret]; go_ret2
    exact ⟨rfl, HB1.out⟩
  | true =>
    rw [hn] at HNA hq
    have hl : lifeI n = 0 := by simpa using hq
    have HL := Lib.hid hl
    clear hq hn hl
    go_enter Try.func11, Try.ntmps11
    go_wp2
    refine wp_scope_fwd 0 rfl ?_
    go_wp2_with (first | (go_at_call 30; refine HN.out.mono ?_; rintro e w' ⟨rfl, rfl⟩) | (go_at_call 31; refine HNA.out.mono ?_; rintro e w1 ⟨rfl, hb⟩; have HB1 := Lib.hid (bl_then (bl_alloc (Below.refl _ _) _) hb); clear hb) | (go_at_call 15; refine (life_any n _).mono ?_; rintro e w2 ⟨rfl, rfl⟩; rw [HL.out]))
    refine wp_goto ?_; show (0 = 0 ∧ _); refine ⟨rfl, ?_⟩; go_wp2; rw [Exit.noGoto_ret]; go_ret2
    exact ⟨rfl, HB1.out⟩
end Go.Proofs.Ytojeombljhmkaaa
