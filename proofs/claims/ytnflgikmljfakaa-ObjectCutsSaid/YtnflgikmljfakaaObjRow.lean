/- Object: objects handed in. -/
import Derived.Test.YtnflgikmljfakaaObjB
import Derived.Test.YtnflgikmljfakaaNestB
namespace Go.Proofs.Ytnflgikmljfakaa
open Go.RowKit Go.ChangeShapes Go.WideShapes Go.Deep
set_option linter.unusedVariables false
theorem ws_of {w : World} {v : Value} (h : SK.is w (.sl [.int .i64]) v) : ∃ ws : List Int, WsAt w v ws := by
  obtain ⟨xs, hc, hr⟩ := h
  obtain ⟨ls, rfl, -⟩ := typed_list (enc := iC) (p := fun _ => True) (fun c hm => by
    obtain ⟨a, u, rfl, -, k⟩ := ck_int (hc c hm)
    obtain rfl := ck_nil k
    exact ⟨a, rfl, trivial⟩)
  refine ⟨ls, ?_⟩
  rcases hr with h4 | ⟨A, c, h5, h6⟩
  · exact .inl (SAt.typed h4)
  · exact .inr ⟨A, c, h5, by simpa using h6⟩
theorem ob_of {w : World} {cs : List Value} (h : SKs w [.ck (.int .i64), .ck (.int .i64), .sl [.int .i64]] cs) : ∃ q : Ob, cs = q.cells ∧ WsAt w q.v q.ws := by
  obtain ⟨v0, r0, rfl, ⟨a, rfl, -⟩, k⟩ := sk_cons h
  obtain ⟨v1, r1, rfl, ⟨b, rfl, -⟩, k2⟩ := sk_cons k
  obtain ⟨v2, r2, rfl, h2, k3⟩ := sk_cons k2
  obtain rfl := sk_nil k3
  obtain ⟨ws, hw⟩ := ws_of h2
  exact ⟨⟨v2, a, b, ws⟩, rfl, hw⟩
section
variable {H : Type} {enc : TypeId × Value → H} {w : World} {base : Nat} {spare : Nat → Bool} {held : Bool}
theorem open_obs {r : Reach} {b0 : Nat} {v : Value} {d : DataW H} {p : List MemPlace} (hv : Value.okWide Try.prog w r b0 22 v) (h : DataW.Trod enc Try.prog w base spare held 22 v d p) : ∃ qs, ObsAt w v qs := by
  obtain ⟨xs, hc, hs⟩ := open_sks (n := 4) (ks := [.ck (.int .i64), .ck (.int .i64), .sl [.int .i64]]) Try.underlying22 (by kernel_rfl) (by kernel_rfl) (by decide) hv h
  obtain ⟨qs, rfl, hq⟩ := typed_sks (en := Ob.cells) (p := fun q => WsAt w q.v q.ws) hc fun c hc => ob_of hc
  exact ⟨qs, SAt.typed hs, hq⟩
theorem open_bytes {r : Reach} {b0 : Nat} {v : Value} {d : DataW H} {p : List MemPlace} (hv : Value.okWide Try.prog w r b0 25 v) (h : DataW.Trod enc Try.prog w base spare held 25 v d p) : ∃ bs : List Int, SAt yC 1 w v bs ∧ ∀ x ∈ bs, 0 ≤ x ∧ x < 256 := by
  obtain ⟨xs, hc, hs⟩ := open_flats (n := 3) (ks := [.int .u8]) Try.underlying25 (by kernel_rfl) (by kernel_rfl) hv h
  obtain ⟨ls, rfl, hl⟩ := typed_list (enc := yC) (p := fun x => 0 ≤ x ∧ x < 256) (fun c hm => by
    obtain ⟨a, u, rfl, hw, k⟩ := ck_int (hc c hm)
    obtain rfl := ck_nil k
    refine ⟨a, rfl, ?_⟩
    have : 0 ≤ a ∧ a ≤ 255 := by simpa [Lit.wf, IntKind.min, IntKind.max, IntKind.signed, IntKind.bits] using hw
    omega)
  exact ⟨ls, SAt.typed hs, hl⟩
end
end Go.Proofs.Ytnflgikmljfakaa
