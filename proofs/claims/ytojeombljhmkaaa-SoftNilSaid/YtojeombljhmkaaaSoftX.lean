/- Soft: SoftNil. -/
import Derived.Test.YtojeombljhmkaaaSoftW
namespace Go.Proofs.Ytojeombljhmkaaa
open Go.RowKit Go.Shelf Go.Sort
set_option linter.unusedVariables false
set_option linter.unusedSimpArgs false
attribute [local go_sem] Oper.semAt_some
set_option maxHeartbeats 400000 in
theorem copy_none (v : Value) (w : World) (h : NoTab w v) :
    Calls Try.prog 22 #[v] w fun e w' => e = .returned (.pointer none) ∧ w = w' := by
  have hn := none_yes v w h
  clear h
  go_enter Try.func22, Try.ntmps22
  go_wp2_with (go_at_call 30; refine hn.mono ?_; rintro e w' ⟨rfl, rfl⟩)
  go_ret
  exact ⟨rfl, rfl⟩
set_option maxRecDepth 20000 in
set_option maxHeartbeats 400000 in
theorem same_none (u v : Value) (w : World) (h : NoTab w u) (k : NoTab w v) :
    Calls Try.prog 24 #[u, v] w fun e w' => e = .returned (.bool true) ∧ w = w' := by
  have hn := Lib.hid (none_yes u w h)
  have hk := Lib.hid (none_yes v w k)
  clear h k
  go_enter Try.func24, Try.ntmps24
  go_wp2_with (go_at_call 30; first | (with_reducible refine hn.out.mono ?_; rintro e w' ⟨rfl, rfl⟩) | (with_reducible refine hk.out.mono ?_; rintro e w' ⟨rfl, rfl⟩))
  go_ret
  exact ⟨rfl, rfl⟩
set_option maxRecDepth 100000 in
set_option maxHeartbeats 4000000 in
theorem softNil_any (s : ByteArray) (n : Int) (w : World) :
    Calls Try.prog 8 #[.string s, .int .i64 n] w fun e w' => e = .returned (.bool true) ∧ Below w.heap.size w w' := by
  obtain ⟨Q, hQ⟩ : ∃ Q : Ending → World → Prop, Q = fun e w' => e = .returned (.bool true) ∧ Below w.heap.size w w' := ⟨_, rfl⟩
  rw [← hQ]
  have HQ := Lib.hid hQ
  clear hQ
  by_cases hs : 200 < s.size
  · have hz : (200 : Int) < (s.size : Int) := by omega
    have HK := Lib.hid (known_any w)
    go_enter Try.func8, Try.ntmps8
    go_wp2_with (go_at_call 9; refine HK.out.mono ?_; rintro e w' ⟨rfl, hb⟩; have HB := Lib.hid hb; clear hb)
    rw [HQ.out]
    exact ⟨rfl, HB.out⟩
  · have hz : ¬ (200 : Int) < (s.size : Int) := by omega
    have HN : Hid (∀ W, NoTab W (.pointer none)) := Lib.hid fun W => .inl rfl
    go_enter Try.func8, Try.ntmps8
    go_upto_region 5 with fail
    have HZ0 : Hid (∀ W, Below (w.alloc (.cells #[.int .i64 0, .map none] 65)).heap.size (w.alloc (.cells #[.int .i64 0, .map none] 65)) W → NoTab W (.pointer (some ⟨w.heap.size, 0, none⟩))) := Lib.hid fun W hW => NoTab.below (.inr ⟨w.heap.size, rfl, by go_simp⟩) hW
    have HB0 := Lib.hid (bl_alloc (Below.refl w.heap.size w) (.cells #[.int .i64 0, .map none] 65))
    generalize w.alloc (.cells #[.int .i64 0, .map none] 65) = w1 at HZ0 HB0 ⊢
    have HB := Lib.hid (Below.refl w1.heap.size w1)
    generalize (Value.pointer (some ⟨w.heap.size, 0, none⟩)) = z at HZ0 ⊢
    go_upto_region 6 with (go_at_call 11; (with_reducible refine (keep_none (.pointer none) s n _ (HN.out _)).mono ?_); rintro e w' ⟨rfl, rfl⟩)
    go_upto_region 7 with (go_at_call 13; (with_reducible refine (go_none z n _ (HZ0.out _ ?_)).mono ?_); (· repeat (first | exact HB.out | refine bl_alloc ?_ _ | refine bl_set ?_ (by simp <;> omega) _)); rintro e w' ⟨rfl, hb⟩; replace HB := Lib.hid ((show Below w1.heap.size w1 _ from by repeat (first | exact HB.out | refine bl_alloc ?_ _ | refine bl_set ?_ (by simp <;> omega) _)).trans (hb.mono (by have := HB.out.size; simp <;> omega))); clear hb)
    go_upto_region 8 with (go_at_call 14; (with_reducible refine (get_none (.pointer none) s _ (HN.out _)).mono ?_); rintro e w' ⟨rfl, hb⟩; replace HB := Lib.hid ((show Below w1.heap.size w1 _ from by repeat (first | exact HB.out | refine bl_alloc ?_ _ | refine bl_set ?_ (by simp <;> omega) _)).trans (hb.mono (by have := HB.out.size; simp <;> omega))); clear hb)
    go_wp2_with (first | (go_at_call 16; (with_reducible refine (hear_none (.pointer none) s _ (HN.out _)).mono ?_); rintro e w' ⟨rfl, rfl⟩) | (go_at_call 26; (with_reducible refine (drop_none z s _ (HZ0.out _ ?_)).mono ?_); (· repeat (first | exact HB.out | refine bl_alloc ?_ _ | refine bl_set ?_ (by simp <;> omega) _)); rintro e w' ⟨rfl, rfl⟩) | (go_at_call 28; (with_reducible refine (now_none (.pointer none) _ (HN.out _)).mono ?_); rintro e w' ⟨rfl, rfl⟩) | (go_at_call 28; (with_reducible refine (now_none z _ (HZ0.out _ ?_)).mono ?_); (· repeat (first | exact HB.out | refine bl_alloc ?_ _ | refine bl_set ?_ (by simp <;> omega) _)); rintro e w' ⟨rfl, rfl⟩) | (go_at_call 12; (with_reducible refine (len_none (.pointer none) _ (HN.out _)).mono ?_); rintro e w' ⟨rfl, rfl⟩) | (go_at_call 12; (with_reducible refine (len_none z _ (HZ0.out _ ?_)).mono ?_); (· repeat (first | exact HB.out | refine bl_alloc ?_ _ | refine bl_set ?_ (by simp <;> omega) _)); rintro e w' ⟨rfl, rfl⟩) | (go_at_call 22; (with_reducible refine (copy_none z _ (HZ0.out _ ?_)).mono ?_); (· repeat (first | exact HB.out | refine bl_alloc ?_ _ | refine bl_set ?_ (by simp <;> omega) _)); rintro e w' ⟨rfl, rfl⟩) | (go_at_call 24; (with_reducible refine (same_none (.pointer none) z _ (HN.out _) (HZ0.out _ ?_)).mono ?_); (· repeat (first | exact HB.out | refine bl_alloc ?_ _ | refine bl_set ?_ (by simp <;> omega) _)); rintro e w' ⟨rfl, rfl⟩) | (go_at_call 27; (with_reducible refine (list_none (.pointer none) _ (HN.out _)).mono ?_); rintro e w' ⟨⟨A, k, rfl⟩, hb⟩; replace HB := Lib.hid ((show Below w1.heap.size w1 _ from by repeat (first | exact HB.out | refine bl_alloc ?_ _ | refine bl_set ?_ (by simp <;> omega) _)).trans (hb.mono (by have := HB.out.size; simp <;> omega))); clear hb) | (go_at_call 27; (with_reducible refine (list_none z _ (HZ0.out _ ?_)).mono ?_); (· repeat (first | exact HB.out | refine bl_alloc ?_ _ | refine bl_set ?_ (by simp <;> omega) _)); rintro e w' ⟨⟨A, k, rfl⟩, hb⟩; replace HB := Lib.hid ((show Below w1.heap.size w1 _ from by repeat (first | exact HB.out | refine bl_alloc ?_ _ | refine bl_set ?_ (by simp <;> omega) _)).trans (hb.mono (by have := HB.out.size; simp <;> omega))); clear hb) | (go_at_call 9; (with_reducible refine (known_any _).mono ?_); rintro e w' ⟨rfl, hb⟩; replace HB := Lib.hid ((show Below w1.heap.size w1 _ from by repeat (first | exact HB.out | refine bl_alloc ?_ _ | refine bl_set ?_ (by simp <;> omega) _)).trans (hb.mono (by have := HB.out.size; simp <;> omega))); clear hb))
    rw [HQ.out]
    exact ⟨rfl, HB0.out.trans (HB.out.mono HB0.out.size)⟩
end Go.Proofs.Ytojeombljhmkaaa
