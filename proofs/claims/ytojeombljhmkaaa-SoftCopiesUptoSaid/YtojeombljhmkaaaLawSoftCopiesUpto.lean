/- The statement SoftCopies, where what it reads is of bulk at most 1048576: the law returns true; the input reads as it did. -/
import Derived.Test.YtojeombljhmkaaaRows
import Derived.Test.YtojeombljhmkaaaSoftBS
import Derived.Test.YtojeombljhmkaaaOpen
import Derived.WalkKit
import Derived.ProofKit
import Derived.OpenShut
import Derived.ShutString
import Derived.ChangeOld
import Derived.Below
import Derived.SizedLaws
import Derived.JoinedCond
import Derived.Test.YtojeombljhmkaaaBulk
namespace Go.Proofs.Ytojeombljhmkaaa.softCopies
open Go.ChangeShapes Go.WideShapes Go.ChangeAt Go.RowKit
open Go.ChangeMaps (open_string shut_string)
set_option linter.unusedVariables false
theorem own : ownKnob Try.prog.godebug = none := by kernel_rfl
theorem laidOut : laidOutB Try.prog = true := by kernel_rfl
theorem ac_of {cs : List Value} (h : CKs [.int .i64, .str, .int .i64] cs) : ∃ a : Ac, cs = a.cells ∧ True := by
  obtain ⟨a, u, rfl, -, k⟩ := ck_int h
  obtain ⟨b, u2, rfl, -, k⟩ := ck_str k
  obtain ⟨c, u3, rfl, -, k⟩ := ck_int k
  obtain rfl := ck_nil k
  exact ⟨⟨a, b, c⟩, rfl, trivial⟩
set_option maxRecDepth 100000 in
theorem lifted (os : Os) (started : os.Started) (H : Type) (enc : TypeId × Value → H) (F : Stop.Interp) :
    ReturnsInHanded {} Try.checked os 7 .any ((Rows.OpenSpec.upto Rows.softCopiesSpec).pre6 enc Try.prog Try.f7 Rows.softCopiesUptoRow.domain false) (((Rows.OpenSpec.upto Rows.softCopiesSpec).at F).post enc Try.prog Try.f7 false true false false) := by
  refine returnsInHanded_of_cond (C := Try.checked) (s := (Rows.OpenSpec.upto Rows.softCopiesSpec)) (k := Rows.uptoSmall) rfl own started (by kernel_rfl) Try.func7
    (OpenSpec.witness (enc := enc) (C := Try.checked) (s := (Rows.OpenSpec.upto Rows.softCopiesSpec)) (k := Rows.uptoSmall) rfl false ⟨#[], #[.slice none 0 0, .slice none 0 0, .int .i64 0], []⟩ 8 (by kernel_rfl) (by kernel_rfl) (by kernel_rfl) (x := ([.nil, .nil, .lit (.int .i64 0)], [], [])) (by kernel_rfl) rfl (by kernel_rfl)) ?_
  intro W base args ds gs before hval0 hW hcnd hk _
  show Calls Try.prog _ args W fun e W' => ∃ v, e = .returned v ∧ Rows.softCopiesSpec.post enc Try.prog Try.f7 false true false false W args v W'
  have hval : ∀ (j : Nat) t v, Try.f7.params[j]? = some t → args[j]? = some v → Value.okWide Try.prog W .any base t v := hval0
  have hW' := hW
  obtain ⟨p, q, hA0, hV, rfl, hfz, hnd⟩ := hW
  have hA : DataW.TrodAll enc Try.prog W 0 (fun _ => true) true Try.f7.params.toList args.toList ds p := hA0
  rw [Try.params7] at hA hval
  obtain ⟨v0, vs0, d0, ds0, p0, q0, hargs, rfl, rfl, h0, r0⟩ := trodAll_cons hA
  obtain ⟨v1, vs1, d1, ds1, p1, q1, rfl, rfl, rfl, h1, r1⟩ := trodAll_cons r0
  obtain ⟨v2, vs2, d2, ds2, p2, q2, rfl, rfl, rfl, h2, r2⟩ := trodAll_cons r1
  obtain ⟨rfl, rfl, rfl⟩ := trodAll_nil r2
  obtain rfl : args = #[v0, v1, v2] := by cases args; simp_all
  obtain ⟨rfl, rfl⟩ := trodVars_none hV
  have hv0 := hval 0 43 v0 rfl rfl
  have k0 := h0
  have lt0 : ∀ x ∈ p0, x.block < W.heap.size := by obtain ⟨m, hm⟩ := k0; exact DataW.trod_lt m _ _ _ hm
  obtain ⟨xs0, hc0, hs0⟩ := open_flats (n := 3) (ks := [.int .i64, .str, .int .i64]) Try.underlying43 (by kernel_rfl) (by kernel_rfl) hv0 h0
  obtain ⟨ls0, rfl, wl0⟩ := typed_list (enc := Ac.cells) (p := fun _ => True) (fun c hc => ac_of (hc0 c hc))
  have hs0 := SAt.typed hs0
  have hv1 := hval 1 43 v1 rfl rfl
  have k1 := h1
  have lt1 : ∀ x ∈ p1, x.block < W.heap.size := by obtain ⟨m, hm⟩ := k1; exact DataW.trod_lt m _ _ _ hm
  obtain ⟨xs1, hc1, hs1⟩ := open_flats (n := 3) (ks := [.int .i64, .str, .int .i64]) Try.underlying43 (by kernel_rfl) (by kernel_rfl) hv1 h1
  obtain ⟨ls1, rfl, wl1⟩ := typed_list (enc := Ac.cells) (p := fun _ => True) (fun c hc => ac_of (hc1 c hc))
  have hs1 := SAt.typed hs1
  have hv2 := hval 2 3 v2 rfl rfl
  have k2 := h2
  have lt2 : ∀ x ∈ p2, x.block < W.heap.size := by obtain ⟨m, hm⟩ := k2; exact DataW.trod_lt m _ _ _ hm
  obtain ⟨a2, rfl, -, -, w2⟩ := open_int Try.underlying3 hv2 h2
  have hbk := bulk_of hk
  simp only [List.append_nil, Rows.uptoBulkAll] at hbk
  have sm0 := flats_bulk Try.underlying43 h0 hs0
  have sm1 := flats_bulk Try.underlying43 h1 hs1
  clear hA0 hval0 hk
  refine (softCopies_any v0 v1 ls0 ls1 a2 W hs0 hs1 (by omega)).mono fun e W' ⟨he, bel⟩ => ?_
  subst he
  exact ⟨_, rfl, _, _, _, [], _, [], hW', trodAll_mk1 (shut_bool Try.underlying4 _), (trodAll_cons_mk (Below.trod laidOut (by kernel_rfl) (of_decide_eq_true (by kernel_rfl)) k0 bel lt0) (trodAll_cons_mk (Below.trod laidOut (by kernel_rfl) (of_decide_eq_true (by kernel_rfl)) k1 bel lt1) (trodAll_cons_mk (Below.trod laidOut (by kernel_rfl) (of_decide_eq_true (by kernel_rfl)) k2 bel lt2) trodAll_mk0))), rfl, bel.frame _, fun h => by cases h⟩
theorem over : Rows.softCopiesUptoRow.holds Try.pinned (Rows.OpenSpec.upto Rows.softCopiesSpec) :=
  OpenClaim.holds_of_cond 7 Try.f7 rfl rfl rfl rfl rfl rfl rfl ⟨rfl, rfl, rfl, rfl, rfl⟩ rfl rfl rfl rfl rfl (by kernel_rfl) Try.func7 (by kernel_rfl)
    (of_decide_eq_true (by kernel_rfl)) (by unfold Func.isWrapper; first | (rw [if_pos (by decide +kernel)]; kernel_rfl) | (rw [if_neg (by decide +kernel)]; exact ⟨rfl, rfl⟩))
    (fun os started H enc _ F => lifted os started H enc F)
end Go.Proofs.Ytojeombljhmkaaa.softCopies
namespace Go.Proofs.Ytojeombljhmkaaa
/-- The statement. -/
theorem softCopiesUpto_holds : Rows.SoftCopiesUptoSaid := softCopies.over
#print axioms softCopiesUpto_holds
end Go.Proofs.Ytojeombljhmkaaa
