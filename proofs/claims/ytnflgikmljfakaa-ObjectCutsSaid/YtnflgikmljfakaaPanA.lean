/- A range over a function of which a round, or the function itself, panics. -/
import Derived.RangeFuncNested
import Derived.RangeFuncLeaves
import Derived.OrdersIn
namespace Go.Proofs.Ytnflgikmljfakaa
open Go Go.RowKit
set_option linter.unusedVariables false
variable {n : Nat} {P : Program}
/-- A walk within the frames of one function (the wide fence). -/
def WpAt (P : Program) (f : FuncId) (c : Code) (Q : Exit → Act → World → Prop) (a : Act) (w : World) : Prop :=
  ∀ (b : Frame) (k : List Item) (cs : List Frame), b.roundOf = none → b.fn = f →
    ∃ e a' w', Q e a' w' ∧ ArrivesIn (Machine.fenced P Fence.wide) P (lone (b.atR a (.code c :: k)) cs w) b k cs e a' w'
theorem wpAt_of {f : FuncId} {c : Code} {Q : Exit → Act → World → Prop} {a : Act} {w : World} (h : c.wpIn Fence.wide n P Q a w) : WpAt P f c Q a w :=
  fun b k cs hro _ => h b k cs hro trivial (room_wide _)
theorem wpAt_wp {f : FuncId} {c : Code} {Q : Exit → Act → World → Prop} {a : Act} {w : World} (h : c.wp P Q a w) : WpAt P f c Q a w := wpAt_of (n := 0) (wpIn_wide.2 h)
theorem calm {fr : Frame} {cs : List Frame} {w : World} : (lone fr cs w).fenced P Fence.wide := fenced_wide _ _
theorem wpAt_seq {f : FuncId} {x y : Code} {Q : Exit → Act → World → Prop} {a : Act} {w : World} (h : WpAt P f x (Exit.then (WpAt P f y Q) Q) a w) : WpAt P f (.seq x y) Q a w := by
  intro b k cs hro hb
  obtain ⟨e, a1, w1, hq, harr⟩ := h b (.code y :: k) cs hro hb
  cases e with
  | normal =>
    obtain ⟨e2, a2, w2, hq2, harr2⟩ := hq b k cs hro hb
    exact ⟨e2, a2, w2, hq2, .of_steps (.head calm stepR_seq harr) harr2⟩
  | _ => exact ⟨_, a1, w1, hq, .of_steps (.one calm stepR_seq) (.pass (x := .code y) rfl (fun _ _ => .inl (by simp)) harr)⟩
/-- The walk's own law for what stands ahead: the text ahead in plain words. -/
theorem wpAt_seq_k {f : FuncId} {x y : Code} {Q : Exit → Act → World → Prop} {a : Act} {w : World} (h : ∀ K : Act → World → Prop, (∀ a w, WpAt P f y Q a w → K a w) → x.wp P (Exit.then K Q) a w) : WpAt P f (.seq x y) Q a w :=
  wpAt_seq (wpAt_wp (h _ fun _ _ h => h))
theorem wpAt_cond {f : FuncId} {c : Operand} {x y : Code} {t : Bool} {Q : Exit → Act → World → Prop} {a : Act} {w : World} (hc : a.eval c = .bool t) (h : WpAt P f (if t then x else y) Q a w) : WpAt P f (.cond c x y) Q a w :=
  fun b k cs hro hb => let ⟨e, a', w', q, r⟩ := h b k cs hro hb; ⟨e, a', w', q, .of_steps (.one calm (stepR_cond hc)) r⟩
/-- A function's contract out of such a walk of its body. -/
theorem calls_of_wpAt {f : FuncId} {fn : Func} {c : Code} {args : Array Value} {w : World} {R : Ending → World → Prop} (hf : P.funcs[f]? = some fn) (hb : fn.body = some c)
    (h : WpAt P f c (bodyPostM Fence.wide n P fn R) { tmps := args ++ Array.replicate (fn.ntmps - args.size) undef, defers := [] } w) : CallsIn Fence.wide n P f args w R := by
  refine ⟨trivial, fun cs hr => ?_⟩
  obtain ⟨b, hbd⟩ : ∃ b : Frame, b = { (default : Frame) with fn := f, kind := .normal, roundOf := none } := ⟨_, rfl⟩
  have henter : Frame.enter P f args .normal = b.atR { tmps := args ++ Array.replicate (fn.ntmps - args.size) undef, defers := [] } [.code c] := by
    simp [Frame.enter, Frame.atR, hf, hb, hbd]
  have hbf : b.fn = f := by rw [hbd]
  have hbk : b.kind = .normal := by rw [hbd]
  have hbr : b.roundOf = none := by rw [hbd]
  have hff : P.funcs[b.fn]? = some fn := by rw [hbf]; exact hf
  obtain ⟨e, a', w', hq, harr⟩ := h b [] cs hbr hbf
  rw [← henter] at harr
  have out : ∀ (u : FrameMode) (todo : List Item) (k : LeavesInM Fence.wide n P fn a'.tmps R a'.defers u w'),
      StepsIn (Machine.fenced P Fence.wide) P (lone (Frame.enter P f args .normal) cs w) (lone { b.atR a' todo with mode := u } cs w') →
      ∃ e w' fr', R e w' ∧ ComesIn (Machine.fenced P Fence.wide) P (lone (Frame.enter P f args .normal) cs w) (lone fr' cs w') e ∧ fr'.fn = f ∧ fr'.leaving P w' e := by
    intro u todo k hs
    obtain ⟨e', w'', fr', hR, hs', hfn, hl⟩ := leaves_stepsInM a'.defers u w' { b.atR a' todo with mode := u } cs rfl rfl rfl hff hbk trivial hr k
    exact ⟨e', w'', fr', hR, ComesIn.of_steps hs hs', hfn.trans hbf, hl⟩
  cases e with
  | normal => exact out .returning [] hq (StepsIn.trans harr (.one calm (stepR_end hbr)))
  | ret =>
    obtain ⟨todo, hs0⟩ := harr.1 hbr
    exact out .returning todo hq hs0
  | panic chain =>
    obtain ⟨todo, hs0⟩ := harr
    exact out (.panicking chain) todo hq hs0
  | exit id => exact hq.elim
  | goto l => exact hq.elim
  | outgrown => exact ⟨.outgrown, w', b, hq, harr.resolve_left (by simp [hbk]), hbf, trivial⟩
/-- What is asked at a round's end, panics taken in: a round that panics has no deferred calls of its own. -/
def roundP (P : Program) (l : Nat) (R : Ending → World → Prop) : Exit → Act → World → Prop
  | .panic chain, a, w => a.defers = [] ∧ R (.panicked chain) w
  | e, a, w => roundPost P l R e a w
/-- A round's contract out of its body's walk: it may panic. -/
theorem roundIn_pan {l : Nat} {f : FuncId} {fn : Func} {tmps : Array Value} {assign body : Code} {w : World} {R : Ending → World → Prop} (hf : P.funcs[f]? = some fn)
    (h : assign.wpIn (Fence.wide.inRound l) n P (Exit.then (fun a1 w1 => ∃ w2, (Instr.beginRound l).run P w1 = .ok () w2 ∧ body.wpIn (Fence.wide.inRound l) n P (roundP P l R) a1 w2) (fun _ _ _ => False))
      { tmps := tmps, defers := [] } w) : RoundIn Fence.wide n P l f tmps assign body w R := by
  refine ⟨trivial, fun c cs hr => ?_⟩
  obtain ⟨b, hbd⟩ : ∃ b : Frame, b = { (default : Frame) with fn := f, kind := .normal, roundOf := some l } := ⟨_, rfl⟩
  have hbf : b.fn = f := by rw [hbd]
  have hbk : b.kind = .normal := by rw [hbd]
  have hbr : b.roundOf = some l := by rw [hbd]
  have hb0 : Frame.round l f tmps assign body .normal = b.atR { tmps := tmps, defers := [] } [.code assign, .beginRound, .code body] := by
    simp [Frame.round, Frame.atR, hbd]
  obtain ⟨e, a1, w1, hq, harr⟩ := h b [.beginRound, .code body] (c :: cs) hbr trivial (room_wide _)
  rw [← hb0] at harr
  cases e with
  | normal =>
    obtain ⟨w2, hbegin, hbody⟩ := hq
    have s1 := StepsIn.trans harr (.one (I := Machine.fenced P Fence.wide) calm (stepR_beginRound (b := b) (a := a1) (k := [.code body]) (cs := c :: cs) hbr hbegin))
    obtain ⟨e2, a2, w3, hq2, harr2⟩ := hbody b [] (c :: cs) hbr trivial (room_wide _)
    cases e2 with
    | normal =>
      obtain ⟨v, w4, hend, hR⟩ := hq2
      exact ⟨.returned v, w4, hR, s1.trans (StepsIn.trans harr2 (.one calm (stepR_round_end hbr hbk hend)))⟩
    | ret =>
      obtain ⟨v, w4, hend, hR⟩ := hq2
      obtain ⟨k1, hs⟩ := harr2.2 (by rw [hbr]; rfl)
      exact ⟨.returned v, w4, hR, s1.trans (StepsIn.trans hs (.one calm (stepR_round_ret hbr hbk hend)))⟩
    | exit id =>
      obtain ⟨v, w4, hend, hR⟩ := hq2
      obtain ⟨k1, hk, hs⟩ := harr2.2 (by rw [hbr]; rfl) rfl
      exact ⟨.returned v, w4, hR, s1.trans (StepsIn.trans hs (.one calm (stepR_round_exit hbr hbk hk hend)))⟩
    | goto t =>
      obtain ⟨v, w4, hend, hR⟩ := hq2
      obtain ⟨k1, hk, hs⟩ := harr2.2 (by rw [hbr]; rfl) rfl
      exact ⟨.returned v, w4, hR, s1.trans (StepsIn.trans hs (.one calm (stepR_round_goto hbr hbk hk hend)))⟩
    | panic chain =>
      obtain ⟨hd, hR⟩ := hq2
      obtain ⟨todo, hs⟩ := harr2
      have hl : ({ b.atR a2 todo with mode := .panicking chain } : Frame).leaving P w3 (.panicked chain) := ⟨rfl, hd, fn, (by rw [show ({ b.atR a2 todo with mode := FrameMode.panicking chain } : Frame).fn = f from hbf]; exact hf)⟩
      exact ⟨.panicked chain, w3, hR, s1.trans (StepsIn.trans hs (.one calm (step_leave_panicked hl)))⟩
    | outgrown => exact hq2.elim
  | _ => exact hq.elim
end Go.Proofs.Ytnflgikmljfakaa
