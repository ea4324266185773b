/- The statement SoftJumps: the law returns true, whatever the input; the input reads as it did. -/
import Derived.Test.YtojeombljhmkaaaRows
import Derived.Test.YtojeombljhmkaaaSoftAA
import Derived.Test.YtojeombljhmkaaaOpen
import Derived.WalkKit
import Derived.ProofKit
import Derived.OpenShut
import Derived.ShutString
import Derived.ChangeOld
import Derived.Below
import Derived.SizedLaws
namespace Go.Proofs.Ytojeombljhmkaaa.softJumps
open Go.ChangeShapes Go.WideShapes Go.ChangeAt Go.RowKit
open Go.ChangeMaps (open_string shut_string)
set_option linter.unusedVariables false
theorem own : ownKnob Try.prog.godebug = none := by kernel_rfl
theorem laidOut : laidOutB Try.prog = true := by kernel_rfl
theorem st_of {cs : List Value} (h : CKs [.str] cs) : ∃ a : ByteArray, cs = sCells a ∧ True := by
  obtain ⟨a, u, rfl, -, k⟩ := ck_str h
  obtain rfl := ck_nil k
  exact ⟨a, rfl, trivial⟩
theorem u8_of {cs : List Value} (h : CKs [.int .u8] cs) : ∃ a : Int, cs = uCells a ∧ 0 ≤ a ∧ a ≤ 255 := by
  obtain ⟨a, u, rfl, q, k⟩ := ck_int h
  obtain rfl := ck_nil k
  exact ⟨a, rfl, by simpa [Lit.wf, IntKind.min, IntKind.max, IntKind.signed, IntKind.bits] using q⟩
set_option maxRecDepth 100000 in
theorem lifted (os : Os) (started : os.Started) (H : Type) (enc : TypeId × Value → H) :
    ReturnsInHanded {} Try.checked os 4 .any (Rows.softJumpsSpec.pre6 enc Try.prog Try.f4 Rows.softJumpsRow.domain false) (Rows.softJumpsSpec.post enc Try.prog Try.f4 false true false false) := by
  refine returnsInHanded_of_change_sized (C := Try.checked) own started (by kernel_rfl) Try.func4
    (ChangeSpec.witness6 (enc := enc) (C := Try.checked) false ⟨#[], #[.slice none 0 0, .slice none 0 0, .int .i64 0], []⟩ 8 (by kernel_rfl) (by kernel_rfl) (by kernel_rfl) (by kernel_rfl)) ?_
  intro W base args ds gs before hval0 hW hcnd hsz0 _
  have hsz : (DataW.weightsEach Try.prog (Try.f4.params.toList ++ Rows.softJumpsSpec.plain.varTypes Try.prog) (ds ++ gs)).all (· ≤ reachBytes) = true := hsz0
  have hval : ∀ (j : Nat) t v, Try.f4.params[j]? = some t → args[j]? = some v → Value.okWide Try.prog W .any base t v := hval0
  have hW' := hW
  obtain ⟨p, q, hA0, hV, rfl, hfz, hnd⟩ := hW
  have hA : DataW.TrodAll enc Try.prog W 0 (fun _ => true) true Try.f4.params.toList args.toList ds p := hA0
  rw [Try.params4] at hA hval hsz
  obtain ⟨v0, vs0, d0, ds0, p0, q0, hargs, rfl, rfl, h0, r0⟩ := trodAll_cons hA
  obtain ⟨v1, vs1, d1, ds1, p1, q1, rfl, rfl, rfl, h1, r1⟩ := trodAll_cons r0
  obtain ⟨v2, vs2, d2, ds2, p2, q2, rfl, rfl, rfl, h2, r2⟩ := trodAll_cons r1
  obtain ⟨rfl, rfl, rfl⟩ := trodAll_nil r2
  obtain rfl : args = #[v0, v1, v2] := by cases args; simp_all
  obtain ⟨rfl, rfl⟩ := trodVars_none hV
  have hv0 := hval 0 31 v0 rfl rfl
  have k0 := h0
  have lt0 : ∀ x ∈ p0, x.block < W.heap.size := by obtain ⟨m, hm⟩ := k0; exact DataW.trod_lt m _ _ _ hm
  obtain ⟨xs0, hc0, hs0⟩ := open_flats (n := 2) (ks := [.str]) Try.underlying31 (by kernel_rfl) (by kernel_rfl) hv0 h0
  obtain ⟨ls0, rfl, wl0⟩ := typed_list (enc := sCells) (p := fun _ => True) (fun c hc => st_of (hc0 c hc))
  have hs0 := SAt.typed hs0
  have hv1 := hval 1 25 v1 rfl rfl
  have k1 := h1
  have lt1 : ∀ x ∈ p1, x.block < W.heap.size := by obtain ⟨m, hm⟩ := k1; exact DataW.trod_lt m _ _ _ hm
  obtain ⟨xs1, hc1, hs1⟩ := open_flats (n := 2) (ks := [.int .u8]) Try.underlying25 (by kernel_rfl) (by kernel_rfl) hv1 h1
  obtain ⟨ls1, rfl, wl1⟩ := typed_list (enc := uCells) (p := fun n => 0 ≤ n ∧ n ≤ 255) (fun c hc => u8_of (hc1 c hc))
  have hs1 := SAt.typed hs1
  have hv2 := hval 2 2 v2 rfl rfl
  have k2 := h2
  have lt2 : ∀ x ∈ p2, x.block < W.heap.size := by obtain ⟨m, hm⟩ := k2; exact DataW.trod_lt m _ _ _ hm
  obtain ⟨a2, rfl, -, -, w2⟩ := open_int Try.underlying2 hv2 h2
  clear hA0 hval0 hsz0 hsz
  refine (softJumps_any v0 v1 ls0 ls1 a2 W hs0 hs1 wl1).mono fun e W' ⟨he, bel⟩ => ?_
  subst he
  exact ⟨_, rfl, _, _, _, [], _, [], hW', trodAll_mk1 (shut_bool Try.underlying4 _), (trodAll_cons_mk (Below.trod laidOut (by kernel_rfl) (of_decide_eq_true (by kernel_rfl)) k0 bel lt0) (trodAll_cons_mk (Below.trod laidOut (by kernel_rfl) (of_decide_eq_true (by kernel_rfl)) k1 bel lt1) (trodAll_cons_mk (Below.trod laidOut (by kernel_rfl) (of_decide_eq_true (by kernel_rfl)) k2 bel lt2) trodAll_mk0))), rfl, bel.frame _, fun h => by cases h⟩
theorem over : Rows.softJumpsRow.holds Try.pinned (OpenSpec.ofChange Rows.softJumpsSpec) :=
  OpenClaim.holds_of_wide 4 Try.f4 rfl rfl rfl rfl rfl rfl rfl ⟨rfl, rfl, rfl, rfl, rfl⟩ rfl rfl rfl rfl rfl (by kernel_rfl) Try.func4 (by kernel_rfl)
    (of_decide_eq_true (by kernel_rfl)) (by unfold Func.isWrapper; first | (rw [if_pos (by decide +kernel)]; kernel_rfl) | (rw [if_neg (by decide +kernel)]; exact ⟨rfl, rfl⟩))
    (fun os started H enc _ => lifted os started H enc)
end Go.Proofs.Ytojeombljhmkaaa.softJumps
namespace Go.Proofs.Ytojeombljhmkaaa
/-- The statement. -/
theorem softJumps_holds : Rows.SoftJumpsSaid := softJumps.over
#print axioms softJumps_holds
end Go.Proofs.Ytojeombljhmkaaa
