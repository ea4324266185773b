/- Soft: find. -/
import Derived.Test.YtojeombljhmkaaaSoftB
namespace Go.Proofs.Ytojeombljhmkaaa
open Go.RowKit Go.Shelf
set_option linter.unusedVariables false
set_option linter.unusedSimpArgs false
attribute [local go_sem] Oper.semAt_some
def getT (es : List (Nat × Th)) (s : ByteArray) : Option (Nat × Th) := es.find? fun e => e.2.name = s
theorem getT_get (es : List (Nat × Th)) (s : ByteArray) : mget (es.map fun e => (e.2.name, Value.pointer (some ⟨e.1, 0, none⟩))) s = (getT es s).map fun e => Value.pointer (some ⟨e.1, 0, none⟩) := by
  unfold mget getT
  rw [List.find?_map, Option.map_map]
  rfl
theorem zeroP : ∀ w, (zeroValue 70).run Try.prog w = .ok (.pointer none) w := fun w => by kernel_rfl
theorem look_T {w : World} {p r : Nat} {now : Int} {es : List (Nat × Th)} (h : TAt w p r now es) (s : ByteArray) :
    (Instr.lookup 63 (.map (some r)) (.string s) false).run Try.prog w = .ok (((getT es s).map fun e => Value.pointer (some ⟨e.1, 0, none⟩)).getD (.pointer none)) w := by
  have := run_look (P := Try.prog) klawS Try.underlying63 (zeroP w) h.map s false
  rw [getT_get] at this
  simpa using this
set_option maxHeartbeats 400000 in
theorem find_none (v : Value) (s : ByteArray) (w : World) (h : NoTab w v) :
    Calls Try.prog 39 #[v, .string s] w fun e w' => e = .returned (.tuple #[.pointer none, .int .i64 1]) ∧ w = w' := by
  have hn := none_yes v w h
  clear h
  go_enter Try.func39, Try.ntmps39
  go_wp2_with (go_at_call 30; refine hn.mono ?_; rintro e w' ⟨rfl, rfl⟩)
  go_ret2
  exact ⟨rfl, rfl⟩
/-- What find tells. -/
def findR (es : List (Nat × Th)) (s : ByteArray) : Value × Int := if namedB s = true then (match getT es s with | none => (.pointer none, 5) | some e => (.pointer (some ⟨e.1, 0, none⟩), 0)) else (.pointer none, 2)
set_option maxHeartbeats 1000000 in
theorem find_any (p r : Nat) (now : Int) (es : List (Nat × Th)) (s : ByteArray) (w : World) (h : TAt w p r now es) :
    Calls Try.prog 39 #[.pointer (some ⟨p, 0, none⟩), .string s] w fun e w' => e = .returned (.tuple #[(findR es s).1, .int .i64 (findR es s).2]) ∧ Below w.heap.size w w' := by
  obtain ⟨c0, c1⟩ := h.cells
  have HNA := Lib.hid (named_any s w.heap.size (w.alloc (.cells #[.string s] 9)) (by go_simp))
  have H := Lib.hid h
  clear h
  have HN := Lib.hid (none_no p r w c1)
  clear c0 c1
  obtain ⟨F1, F2, hF⟩ : ∃ F1 F2, findR es s = (F1, F2) := ⟨_, _, rfl⟩
  rw [hF]
  unfold findR at hF
  cases hq : namedB s with
  | false =>
    rw [hq] at HNA hF
    obtain ⟨rfl, rfl⟩ := Prod.mk.inj hF
    clear hq hF
    go_enter Try.func39, Try.ntmps39
    go_wp2_with fail
    refine HN.out.mono ?_
    rintro e w' ⟨rfl, rfl⟩
    go_wp2_with fail
    refine HNA.out.mono ?_
    rintro e w1 ⟨rfl, hb⟩
    have HB1 := Lib.hid (bl_then (bl_alloc (Below.refl _ _) _) hb)
    clear hb
    go_wp2_with fail
    go_ret2
    exact ⟨rfl, HB1.out⟩
  | true =>
    rw [hq, if_pos rfl] at hF
    rw [hq] at HNA
    clear hq
    cases hg : getT es s with
    | none =>
      have HG := Lib.hid hg
      rw [hg] at hF
      clear hg
      obtain ⟨rfl, rfl⟩ := Prod.mk.inj hF
      clear hF
      go_enter Try.func39, Try.ntmps39
      go_wp2_with fail
      refine HN.out.mono ?_
      rintro e w' ⟨rfl, rfl⟩
      go_wp2_with fail
      refine HNA.out.mono ?_
      rintro e w1 ⟨rfl, hb⟩
      have HB1 := Lib.hid (bl_then (bl_alloc (Below.refl _ _) _) hb)
      clear hb
      have c1 := (H.out.below HB1.out).cells.2
      have hlk := look_T (H.out.below HB1.out) s
      rw [HG.out] at hlk
      simp only [Option.map_none, Option.getD_none] at hlk
      go_wp2_with fail
      go_ret2
      exact ⟨rfl, HB1.out⟩
    | some e0 =>
      have HG := Lib.hid hg
      rw [hg] at hF
      clear hg
      obtain ⟨rfl, rfl⟩ := Prod.mk.inj hF
      clear hF
      go_enter Try.func39, Try.ntmps39
      go_wp2_with fail
      refine HN.out.mono ?_
      rintro e w' ⟨rfl, rfl⟩
      go_wp2_with fail
      refine HNA.out.mono ?_
      rintro e w1 ⟨rfl, hb⟩
      have HB1 := Lib.hid (bl_then (bl_alloc (Below.refl _ _) _) hb)
      clear hb
      have c1 := (H.out.below HB1.out).cells.2
      have hlk := look_T (H.out.below HB1.out) s
      rw [HG.out] at hlk
      simp only [Option.map_some, Option.getD_some] at hlk
      go_wp2_with fail
      go_ret2
      exact ⟨rfl, HB1.out⟩
end Go.Proofs.Ytojeombljhmkaaa
