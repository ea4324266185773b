/- A range over a function that may panic, in a round or by itself: the statement. -/
import Derived.Test.YtnflgikmljfakaaPanA
namespace Go.Proofs.Ytnflgikmljfakaa
open Go Go.RowKit
set_option linter.unusedVariables false
variable {n : Nat} {P : Program}
/-- An iterator that may give up: what its rounds panic with goes up through it (Jp); by itself it gives up with what Sd says, between two rounds. -/
def Stays (St : World → World → Prop) {β : Type} (J : β → World → Prop) : Prop := ∀ (s : β) (A B : World), J s A → St A B → J s B
/-- St: what the iterator does between two rounds; X: what holds of what it hands out; Kp: what a round keeps for it. -/
def SeqPan {α : Type} (n : Nat) (P : Program) (g : Nat) (lb : Array Value) (encs : α → Array Value) (Kp St : World → World → Prop) (X : List α → α → World → Prop) (S Sp : List α → Prop) (Sd : List PanicEntry → List α → Prop) (N : Nat) (w : World) : Prop :=
  ∀ (l : Nat) (J Jx : List α → World → Prop) (Jp : List PanicEntry → List α → World → Prop) (W : World), Below w.heap.size w W → Stays St J → Stays St Jx → (∀ ch, Stays St (Jp ch)) →
    (∀ pre x W1, J pre W1 → X pre x W1 → pre.length < N → YieldAt Fence.wide (n - 1) P l (encs x) W1 fun e W' =>
      (e = .returned (.bool true) ∧ J (pre ++ [x]) W' ∧ Kp W1 W') ∨ (e = .returned (.bool false) ∧ Jx (pre ++ [x]) W') ∨ (∃ ch, e = .panicked ch ∧ Jp ch (pre ++ [x]) W')) →
    J [] W →
    CallsIn Fence.wide n P g (#[.func (.yield l) #[] #[]] ++ lb) W fun e W' =>
      ((∃ v, e = .returned v) ∧ ((∃ xs, S xs ∧ J xs W') ∨ (∃ pre, Sp pre ∧ Jx pre W'))) ∨ (∃ ch, e = .panicked ch ∧ ((∃ pre, Sd ch pre ∧ J pre W') ∨ (∃ pre, Jp ch pre W')))
/-- How a round's body may be left. -/
def ownPan {α : Type} (Kp : World → World → Prop) (I : List α → World → Prop) (Ix : Code → List α → World → Prop) (Ip : List PanicEntry → List α → World → Prop) (xs : List α) (W : World) : Exit → Act → World → Prop
  | .panic ch, a, W' => a.defers = [] ∧ KeepsOthers W W' ∧ Ip ch xs W'
  | e, a, W' => ownPostK Kp I Ix xs W e a W'
/-- The statement's own steps, within the frames of one function. -/
theorem wpAt_range {f0 : FuncId} {g : Operand} {ps : Array Tmp} {assign body : Code} {Q : Exit → Act → World → Prop} {a : Act} {w : World}
    {l : Nat} {mark : List Deferred} {w1 : World} {d : Deferred} {w2 : World} {f : FuncId} {args : Array Value} {w3 : World}
    (he : (Instr.enterLoop f0 a.tmps ps assign body none).run P w = .ok (l, mark) w1)
    (hres : (resolve a.eval (rangeCall g l) 0).run P w1 = .ok d w2) (hinv : (invoke d.target d.args).run P w2 = .ok (.enter f args) w3)
    (hcall : CallsIn Fence.wide (n - 1) P f args w3 (rangePost Fence.wide n P l Q { a with defers := mark ++ a.defers })) : WpAt P f0 (.rangeFunc g ps assign body) Q a w := by
  intro b k cs hro hb
  have henter := stepR_rangeFunc (P := P) (b := b) (a := a) (k := k) (cs := cs) (w := w) (by rw [hb, hro]; exact he) hres hinv
  obtain ⟨e, w4, fr, hR, hsteps, -, hleave⟩ := hcall.2 (b.atR { a with defers := mark ++ a.defers } (.inRangeFunc l :: k) :: cs) (room_wide _)
  cases e with
  | outgrown =>
    obtain ⟨a0, w0, hq⟩ := hR
    exact ⟨.outgrown, a0, w0, hq, .inr (Outgrown.of_steps (.one henter) hsteps)⟩
  | returned v =>
    obtain ⟨jump, w5, hend, hj⟩ := hR
    have sback : StepsIn (Machine.fenced P Fence.wide) P (lone (b.atR a (.code (.rangeFunc g ps assign body) :: k)) cs w) (lone (b.atR { a with defers := mark ++ a.defers } ((jump.map Item.code).toList ++ k)) cs w5) := by
      refine .head calm henter (StepsIn.trans hsteps (.head calm ?_ (.one calm (stepR_endRangeFunc hend))))
      rw [← finish_atR_inRangeFunc l v]; exact step_leave_returned hleave
    cases jump with
    | none => exact ⟨.normal, _, w5, hj, sback⟩
    | some c =>
      obtain ⟨e', a'', w6, hq, harr⟩ := hj b k cs hro trivial (room_wide _)
      exact ⟨e', a'', w6, hq, .of_steps sback harr⟩
  | panicked chain =>
    refine ⟨.panic chain, _, w4, hR, .inRangeFunc l :: k, .head calm henter (StepsIn.trans hsteps (.one calm ?_))⟩
    rw [← Frame.raise_atR]; exact step_leave_panicked hleave
theorem wpAt_rangePan {α : Type} {f0 : FuncId} {fd : Func} (hf0 : P.funcs[f0]? = some fd) {g : Operand} {ps : Array Tmp} {assign body : Code} {Q : Exit → Act → World → Prop} {a : Act} {w : World}
    {gf : Nat} {lb : Array Value} (hg : a.eval g = .func (.func gf) #[] lb) (eg : ∀ args w, (callFunc gf args).run P w = .ok (.enter gf args) w)
    {encs : α → Array Value} {Kp St : World → World → Prop} {X : List α → α → World → Prop} {S Sp : List α → Prop} {Sd : List PanicEntry → List α → Prop} {N : Nat} {w0 : World} (hseq : SeqPan (n - 1) P gf lb encs Kp St X S Sp Sd N w0)
    (hSo : ∀ (A B : World) (i : Nat) (o : Obj), St A B → A.heap[i]? = some o → o.isCells = false → B.heap[i]? = some o)
    (hKt : ∀ {A B C : World}, Kp A B → Kp B C → Kp A C) (hKb : ∀ (W : World) (l : Nat) (o o' : Obj), w.heap.size ≤ l → W.heap[l]? = some o → o.isCells = false → o.isWalk = false → Kp W (W.putObj l o')) (hb0 : Below w0.heap.size w0 w) (hps : ∀ x, (encs x).size = ps.size)
    (I : List α → World → Prop) (Ix : Code → List α → World → Prop) (Ip : List PanicEntry → List α → World → Prop) (hI : OwnFrom w.heap.size I) (hIx : ∀ c, OwnFrom w.heap.size (Ix c)) (hIp : ∀ c, OwnFrom w.heap.size (Ip c)) (hIs : Stays St I) (hIxs : ∀ c, Stays St (Ix c)) (hIps : ∀ c, Stays St (Ip c)) (h0 : I [] w) (E : List α → α → Act → World → Prop)
    (hE : ∀ (pre : List α) (x : α) (a1 : Act) (W : World) (l : Nat) (o o' : Obj), w.heap.size ≤ l → W.heap[l]? = some o → o.isCells = false → E pre x a1 W → E pre x a1 (W.putObj l o'))
    (hassign : ∀ (l : Nat) (pre : List α) (x : α) (W : World) (K : Act → World → Prop), I pre W → X pre x W → (∀ a1 W1, KeepsOthers W W1 → Kp W W1 → I pre W1 → E pre x a1 W1 → K a1 W1) →
      assign.wpIn (Fence.wide.inRound l) (n - 1 - 1) P (Exit.then K (fun _ _ _ => False)) { tmps := (ps.zip (encs x)).foldl (fun t (p, v) => t.setIfInBounds p v) a.tmps, defers := [] } W)
    (hbody : ∀ (l : Nat) (pre : List α) (x : α) (a1 : Act) (W : World), I pre W → E pre x a1 W → pre.length < N → body.wpIn (Fence.wide.inRound l) (n - 1 - 1) P (ownPan Kp I Ix Ip (pre ++ [x]) W) a1 W)
    (hdone : ∀ (D : Nat) (xs : List α) (W : World), w.heap.size ≤ D → S xs → I xs W → W.heap[D]? = some (.deferred (some [])) → Q .normal { a with defers := { target := .collected D, args := #[] } :: a.defers } W)
    (hstop : ∀ (D : Nat) (c : Code) (pre : List α) (W : World), w.heap.size ≤ D → Sp pre → Ix c pre W → W.heap[D]? = some (.deferred (some [])) → c.wpIn Fence.wide n P Q { a with defers := { target := .collected D, args := #[] } :: a.defers } W)
    (hdie : ∀ (D : Nat) (ch : List PanicEntry) (pre : List α) (W : World), w.heap.size ≤ D → Sd ch pre → I pre W → W.heap[D]? = some (.deferred (some [])) → Q (.panic ch) { a with defers := { target := .collected D, args := #[] } :: a.defers } W)
    (hpan : ∀ (D : Nat) (ch : List PanicEntry) (pre : List α) (W : World), w.heap.size ≤ D → Ip ch pre W → W.heap[D]? = some (.deferred (some [])) → Q (.panic ch) { a with defers := { target := .collected D, args := #[] } :: a.defers } W) :
    WpAt P f0 (.rangeFunc g ps assign body) Q a w := by
  -- the record, in its states
  obtain ⟨rec, hrec⟩ : ∃ rec : LoopState → Option Code → Loop, rec = fun st pe => { state := st, pending := pe, fn := f0, tmps := a.tmps, params := ps, assign, body, defers := w.heap.size } := ⟨_, rfl⟩
  obtain ⟨W1, hW1⟩ : ∃ W1, (w.alloc (.deferred (some []))).alloc (.loop (rec .ready none)) = W1 := ⟨_, rfl⟩
  have hL1 : W1.heap[w.heap.size + 1]? = some (.loop (rec .ready none)) := by
    rw [← hW1]; have := World.alloc_heap_new (w.alloc (.deferred (some []))) (.loop (rec .ready none)); rwa [World.size_alloc] at this
  have hK1 : W1.heap[w.heap.size]? = some (.deferred (some [])) := by
    rw [← hW1]; exact (Below.heap_alloc _ _ _ (by simp)).trans (World.alloc_heap_new w _)
  have hI1 : I [] W1 := by rw [← hW1]; exact hI.alloc _ (hI.alloc _ h0)
  have hb1 : Below w0.heap.size w0 W1 := by
    rw [← hW1]; exact hb0.trans ((((Below.refl _ w).alloc (Nat.le_refl _) _).alloc (by simp) _).mono hb0.size)
  have hs1 : w.heap.size ≤ W1.heap.size := by rw [← hW1]; simp; omega
  have keep : ∀ (st : LoopState) (pe : Option Code) {β : Type} {J : β → World → Prop}, Stays St J →
      Stays St (fun s W => J s W ∧ W.heap[w.heap.size + 1]? = some (.loop (rec st pe)) ∧ W.heap[w.heap.size]? = some (.deferred (some []))) :=
    fun st pe β J hJ s A B hs hst => ⟨hJ s A B hs.1 hst, hSo A B _ _ hst hs.2.1 rfl, hSo A B _ _ hst hs.2.2 rfl⟩
  refine wpAt_range (n := n) (l := w.heap.size + 1) (mark := [{ target := .collected w.heap.size, args := #[] }]) (w1 := W1) (d := { target := .fn (.func gf) lb, args := #[.func (.yield (w.heap.size + 1)) #[] #[]] }) (w2 := W1) (f := gf)
    (args := #[.func (.yield (w.heap.size + 1)) #[] #[]] ++ lb) (w3 := W1) ?_ ?_ ?_ ?_
  · rw [← hW1, hrec]; exact run_enterLoop_outer _ _ _ _ _
  · simp only [resolve, hg]
    simp [go_sem]
  · simp [invoke, go_sem, eg]
  refine (hseq (w.heap.size + 1)
    (fun pre W => I pre W ∧ W.heap[w.heap.size + 1]? = some (.loop (rec .ready none)) ∧ W.heap[w.heap.size]? = some (.deferred (some [])))
    (fun pre W => ∃ c, Ix c pre W ∧ W.heap[w.heap.size + 1]? = some (.loop (rec .done (some c))) ∧ W.heap[w.heap.size]? = some (.deferred (some [])))
    (fun ch pre W => Ip ch pre W ∧ W.heap[w.heap.size + 1]? = some (.loop (rec .busy none)) ∧ W.heap[w.heap.size]? = some (.deferred (some [])))
    W1 hb1 (keep _ _ hIs) (fun s A B hs hst => by obtain ⟨c, hc⟩ := hs; exact ⟨c, keep _ _ (hIxs c) s A B hc hst⟩) (fun ch => keep _ _ (hIps ch)) ?_ ⟨hI1, hL1, hK1⟩).mono ?_
  · -- a round
    rintro pre x W ⟨hi, hl, hk⟩ hX hlen
    have hlt : w.heap.size + 1 < W.heap.size := (Array.getElem?_eq_some_iff.1 hl).1
    have hy := run_yield (P := P) (args := encs x) hl (by rw [hrec]; exact hps x)
    rw [hrec] at hy
    refine ⟨f0, _, assign, body, hy, roundIn_pan hf0 (hassign _ pre x W _ hi hX fun a1 Wa hka hkp hia hea => ?_)⟩
    have hla := hka.same _ _ hl rfl
    have hlta : w.heap.size + 1 < Wa.heap.size := (Array.getElem?_eq_some_iff.1 hla).1
    refine ⟨_, run_beginRound hla (by rw [hrec]), ?_⟩
    obtain ⟨Wb, hWb⟩ : ∃ Wb, Wb = Wa.putObj (w.heap.size + 1) (.loop { rec .ready none with state := .busy }) := ⟨_, rfl⟩
    rw [← hWb]
    have hl2 : Wb.heap[w.heap.size + 1]? = some (.loop { rec .ready none with state := .busy }) := by rw [hWb]; exact World.putObj_heap_same hlta
    have hk2 : Wb.heap[w.heap.size]? = some (.deferred (some [])) := by rw [hWb]; exact (World.putObj_heap_other (by omega)).trans (hka.same _ _ hk rfl)
    have hw2 : Kp W Wb := by rw [hWb]; exact hKt hkp (hKb _ _ _ _ (by omega) hla rfl rfl)
    have hi2 : I pre Wb := by rw [hWb]; exact hI.putObj _ hia (by omega) hla rfl
    have hx2 : E pre x a1 Wb := by rw [hWb]; exact hE _ _ _ _ _ _ _ (by omega) hla rfl hea
    refine wpIn_mono (hbody _ pre x _ _ hi2 hx2 hlen) ?_
    have fin : ∀ (jump : Option Code) (W3 : World), KeepsOthers Wb W3 →
        (Instr.endRound (w.heap.size + 1) jump).run P W3 = .ok (.bool jump.isNone) (W3.putObj (w.heap.size + 1) (.loop (rec (if jump.isNone then .ready else .done) jump))) ∧
        W3.heap[w.heap.size + 1]? = some (.loop { rec .ready none with state := .busy }) ∧
        (W3.putObj (w.heap.size + 1) (.loop (rec (if jump.isNone then .ready else .done) jump))).heap[w.heap.size + 1]? = some (.loop (rec (if jump.isNone then .ready else .done) jump)) ∧
        (W3.putObj (w.heap.size + 1) (.loop (rec (if jump.isNone then .ready else .done) jump))).heap[w.heap.size]? = some (.deferred (some [])) := fun jump W3 hk3 => by
      have hl3 := hk3.same _ _ hl2 rfl
      have := run_endRound (P := P) jump hl3
      rw [hrec] at this ⊢
      exact ⟨this, by rw [hrec] at hl3; exact hl3, World.putObj_heap_same (Array.getElem?_eq_some_iff.1 hl3).1, (World.putObj_heap_other (by omega)).trans (hk3.same _ _ hk2 rfl)⟩
    have jumps : ∀ (c : Code) (W3 : World), KeepsOthers Wb W3 → Ix c (pre ++ [x]) W3 → ∃ v w', (Instr.endRound (w.heap.size + 1) (some c)).run P W3 = .ok v w' ∧ v = .bool false ∧ ∃ c, Ix c (pre ++ [x]) w' ∧ w'.heap[w.heap.size + 1]? = some (.loop (rec .done (some c))) ∧ w'.heap[w.heap.size]? = some (.deferred (some [])) := by
      intro c W3 hk3 hi3
      obtain ⟨hr, hl3, hl4, hk4⟩ := fin (some c) W3 hk3
      exact ⟨_, _, hr, rfl, c, (hIx _).putObj _ hi3 (by omega) hl3 rfl, hl4, hk4⟩
    rintro e a3 W3 hp
    cases e with
    | normal =>
      obtain ⟨hk3, hkp3, hi3⟩ := hp
      obtain ⟨hr, hl3, hl4, hk4⟩ := fin none W3 hk3
      exact ⟨_, _, hr, .inl ⟨rfl, ⟨hI.putObj _ hi3 (by omega) hl3 rfl, hl4, hk4⟩, hKt (hKt hw2 hkp3) (hKb _ _ _ _ (by omega) hl3 rfl rfl)⟩⟩
    | ret =>
      obtain ⟨v, w', hr, rfl, h⟩ := jumps .ret W3 hp.1 hp.2
      exact ⟨_, _, hr, .inr (.inl ⟨rfl, h⟩)⟩
    | exit id =>
      obtain ⟨v, w', hr, rfl, h⟩ := jumps (.exit id) W3 hp.1 hp.2
      exact ⟨_, _, hr, .inr (.inl ⟨rfl, h⟩)⟩
    | goto t =>
      obtain ⟨v, w', hr, rfl, h⟩ := jumps (.goto t) W3 hp.1 hp.2
      exact ⟨_, _, hr, .inr (.inl ⟨rfl, h⟩)⟩
    | panic ch =>
      obtain ⟨hd, hk3, hi3⟩ := hp
      have hl3 := hk3.same _ _ hl2 rfl
      exact ⟨hd, .inr (.inr ⟨ch, rfl, hi3, by rw [hrec] at hl3 ⊢; exact hl3, hk3.same _ _ hk2 rfl⟩)⟩
    | outgrown => exact hp.elim
  · -- behind the iterator
    rintro e W2 (⟨⟨v, rfl⟩, (⟨xs, hS, hi, hl, hk⟩ | ⟨pre, hSp, c, hi, hl, hk⟩)⟩ | ⟨ch, rfl, (⟨pre, hSd, hi, hl, hk⟩ | ⟨pre, hi, hl, hk⟩)⟩)
    · exact ⟨none, _, by have := run_endLoop (P := P) hl (by rw [hrec]; simp); rw [hrec] at this; exact this, hdone _ xs _ (Nat.le_refl _) hS (hI.putObj _ hi (by omega) hl rfl) ((World.putObj_heap_other (by omega)).trans hk)⟩
    · exact ⟨some c, _, by have := run_endLoop (P := P) hl (by rw [hrec]; simp); rw [hrec] at this; exact this, hstop _ c pre _ (Nat.le_refl _) hSp ((hIx c).putObj _ hi (by omega) hl rfl) ((World.putObj_heap_other (by omega)).trans hk)⟩
    · exact hdie _ ch pre _ (Nat.le_refl _) hSd hi hk
    · exact hpan _ ch pre _ (Nat.le_refl _) hi hk
theorem wpAt_block {f : FuncId} {id : Nat} {c : Code} {Q : Exit → Act → World → Prop} {a : Act} {w : World} (h : WpAt P f c (Exit.inBlock id Q) a w) : WpAt P f (.block id c) Q a w := by
  intro b k cs hro hb
  obtain ⟨e, a₁, w₁, hq, harr⟩ := h b (.inBlock id :: k) cs hro hb
  cases e with
  | normal => exact ⟨.normal, a₁, w₁, hq, .head calm stepR_block (StepsIn.trans harr (.one calm stepR_inBlock))⟩
  | exit id' =>
    by_cases hid : id' = id
    · simp only [Exit.inBlock, hid, if_true] at hq
      exact ⟨.normal, a₁, w₁, hq, .head calm stepR_block (harr.1 k (by simp [exitTo, hid]))⟩
    · simp only [Exit.inBlock, hid, if_false] at hq
      have this : (id == id') = false := by simp; exact fun h => hid h.symm
      have hx : exitTo id' (.inBlock id :: k) = exitTo id' k := by simp [exitTo, this]
      exact ⟨.exit id', a₁, w₁, hq, fun k' hk => .head calm stepR_block (harr.1 k' (by rw [hx]; exact hk)),
        fun hr' hk => let ⟨k₁, h1, h2⟩ := harr.2 hr' (by rw [hx]; exact hk); ⟨k₁, h1, .head calm stepR_block h2⟩⟩
  | goto l =>
    have hx : gotoIn l (.inBlock id :: k) = gotoIn l k := by simp [gotoIn]
    exact ⟨_, a₁, w₁, hq, fun k' hk => .head calm stepR_block (harr.1 k' (by rw [hx]; exact hk)),
      fun hr' hk => let ⟨k₁, h1, h2⟩ := harr.2 hr' (by rw [hx]; exact hk); ⟨k₁, h1, .head calm stepR_block h2⟩⟩
  | ret => exact ⟨_, a₁, w₁, hq, .of_steps (.one calm stepR_block) harr⟩
  | panic ch => exact ⟨_, a₁, w₁, hq, .of_steps (.one calm stepR_block) harr⟩
  | outgrown => exact ⟨_, a₁, w₁, hq, .of_steps (.one calm stepR_block) harr⟩
end Go.Proofs.Ytnflgikmljfakaa
