/- A region that draws its order, in the body of a range over a function. Over any program. -/
import Derived.Test.YtnflgikmljfakaaTake
import Derived.OrdersIn
import Derived.TacticsIn
import Derived.RangeFuncNested
import Derived.RangeFuncBox
import Derived.Test.YtnflgikmljfakaaSlices
import Derived.Test.YtnflgikmljfakaaApp
namespace Go.Proofs.Ytnflgikmljfakaa
open Go.RowKit
set_option linter.unusedVariables false
section
variable {P : Program} {ops : Array Oper} {Q : Exit → Act → World → Prop} {S : World → Prop}
/-- Normal ways out alone. -/
def Calm (Q : Exit → Act → World → Prop) : Exit → Act → World → Prop
  | .normal, a, w => Q .normal a w
  | _, _, _ => False
theorem Calm.imp : ∀ (e : Exit) (a : Act) (w : World), Calm Q e a w → Q e a w := fun e a w h => by
  cases e <;> first | exact h | exact (h : False).elim
theorem calls_round {l n : Nat} {f : FuncId} {args : Array Value} {w : World} {R : Ending → World → Prop} (h : Calls P f args w R) : CallsIn (Fence.wide.inRound l) n P f args w R := callsIn_wide.2 h
theorem ops_round {l n : Nat} (hd : ∀ (i : Nat) (o : Oper), ops[i]? = some o → ∀ c, o.op ≠ .defer c) : ∀ (idx : List Nat) (a : Act) (w : World), wpOps P ops (Calm Q) idx a w → wpOpsIn (Fence.wide.inRound l) n P ops (Calm Q) idx a w := by
  intro idx
  induction idx with
  | nil => exact fun a w h => h
  | cons i rest ih =>
    intro a w h
    unfold wpOps at h
    unfold wpOpsIn
    cases ho : ops[i]? with
    | none => rw [ho] at h; exact ih _ _ h
    | some o =>
      rw [ho] at h
      simp only at h ⊢
      split
      · rename_i hw
        rw [if_pos hw] at h
        rcases h with h | ⟨-, a', w', hl⟩
        · refine ⟨fun _ _ => trivial, ?_⟩
          rw [Oper.semAt_eq _ _ _ (hd i o ho)]
          unfold Oper.wp at h
          cases hr : (execOp a.eval o).run P w with
          | ok nx w' =>
            rw [hr] at h
            cases nx with
            | value v => exact ih _ _ h
            | skip => exact ih _ _ h
            | defer d => exact ih _ _ h
            | enter f args =>
              refine ⟨fun hh => (by simp [Fence.wide] at hh), calls_round (Calls.mono h ?_)⟩
              rintro (v | c | _) w2 h2
              · exact ih _ _ h2
              · exact h2
              · exact h2
            | row r args =>
              refine ⟨fun hh => (by simp [Fence.wide] at hh), fun c cs _ => ?_⟩
              obtain ⟨v, w2, h2, hs⟩ := h c cs
              exact ⟨v, w2, ih _ _ h2, stepsIn_wide.2 hs⟩
            | _ => exact (h : False).elim
          | halt x w' =>
            rw [hr] at h
            cases x <;> first | exact (h : False).elim | exact h
        · exact (hl : False).elim
      · rename_i hw
        rw [if_neg hw] at h
        exact ⟨fun _ _ => trivial, ih _ _ h⟩
/-- A drawn region in a round, from the walk of one outside. -/
theorem wpIn_region_round {l n id : Nat} {a : Act} {w : World} (hm : P.follows .mixedOrders = true) (hd : ∀ (i : Nat) (o : Oper), ops[i]? = some o → ∀ c, o.op ≠ .defer c) (hS : S w.drew)
    (h : S w.drew → wpAnyH P .any ops (Calm Q) S ops.size (Array.replicate ops.size false) a w.drew) : (Code.region id ops true).wpIn (Fence.wide.inRound l) n P Q a w := by
  refine wpIn_mono (Q := Calm Q) ?_ Calm.imp
  refine wpIn_region_draw fun t => ?_
  simp only [Region.schedule, hm, Bool.true_or, if_true]
  exact ops_round hd _ _ _ (wpAny_sound ops.size t _ a _ (wpAny_of_held _ _ _ _ (h hS)))
/-! A region whose last operations touch cells that it loads: the facts hold till number m, and from m on all wait for what is taken first. -/
variable {md : Region.Mode} {m : Nat}
def anyTill (P : Program) (md : Region.Mode) (ops : Array Oper) (Q : Exit → Act → World → Prop) (S : World → Prop) (m : Nat) : Nat → Array Bool → Act → World → Prop
  | 0, listed, a, w => Region.ready md ops listed = [] ∧ Q .normal a w
  | fuel + 1, listed, a, w =>
    (Region.ready md ops listed = [] → Q .normal a w) ∧
    ∀ i ∈ Region.ready md ops listed, wpOp P ops Q i (fun a' w' => (i < m → S w') ∧ anyTill P md ops Q S m fuel (listed.setIfInBounds i true) a' w') a w
theorem any_of_till : ∀ (fuel : Nat) (listed : Array Bool) (a : Act) (w : World), anyTill P md ops Q S m fuel listed a w → wpAny P md ops Q fuel listed a w
  | 0, _, _, _, h => h
  | fuel + 1, _, _, _, h => ⟨h.1, fun i hi => wpOp_mono (fun a' w' h' => any_of_till fuel _ a' w' h'.2) (h.2 i hi)⟩
/-- Does number j wait for number i, by others perhaps? -/
def waitsT (md : Region.Mode) (ops : Array Oper) (i : Nat) : Nat → Nat → Bool
  | 0, _ => false
  | f + 1, j => match ops[j]? with
    | some o => o.after.any fun e => Region.binds md e && (e.on == i || waitsT md ops i f e.on)
    | none => false
/-- All that what is listed waits for is listed. -/
def ClosedL (md : Region.Mode) (ops : Array Oper) (listed : Array Bool) : Prop :=
  ∀ k o, ops[k]? = some o → listed.getD k false = true → ∀ e ∈ o.after, Region.binds md e = true → listed.getD e.on false = true
def closedB (md : Region.Mode) (ops : Array Oper) (listed : Array Bool) : Bool :=
  (List.range ops.size).all fun k => match ops[k]? with
    | some o => !(listed.getD k false) || o.after.all fun e => !(Region.binds md e) || listed.getD e.on false
    | none => true
theorem closedB_iff {listed : Array Bool} (h : closedB md ops listed = true) : ClosedL md ops listed := by
  intro k o ho hk e he hb
  have h1 := List.all_eq_true.1 h k (List.mem_range.2 (Array.getElem?_eq_some_iff.1 ho).1)
  rw [ho] at h1
  simp only [hk, Bool.not_true, Bool.false_or] at h1
  have h2 := Array.all_eq_true_iff_forall_mem.1 h1 e he
  simpa [hb] using h2
theorem waits_listed {i : Nat} {listed : Array Bool} (hc : ClosedL md ops listed) : ∀ (f j : Nat), waitsT md ops i f j = true → (∀ o, ops[j]? = some o → ∀ e ∈ o.after, Region.binds md e = true → listed.getD e.on false = true) → listed.getD i false = true := by
  intro f
  induction f with
  | zero => intro j h; cases h
  | succ f ih =>
    intro j h hj
    unfold waitsT at h
    cases ho : ops[j]? with
    | none => rw [ho] at h; cases h
    | some o =>
      rw [ho] at h
      simp only [Array.any_eq_true, Bool.and_eq_true, Bool.or_eq_true, beq_iff_eq] at h
      obtain ⟨k, hk, hb, he⟩ := h
      have hl := hj o ho _ (Array.getElem_mem hk) hb
      rcases he with he | he
      · rw [he] at hl
        exact hl
      · exact ih _ he (fun o' ho' => hc _ o' ho' hl)
/-- From number m on all wait for number i. -/
def lateB (md : Region.Mode) (ops : Array Oper) (m i : Nat) : Bool := decide (i < m) && (List.range ops.size).all fun j => decide (j < m) || waitsT md ops i ops.size j
theorem ready_unlisted {i : Nat} {listed : Array Bool} (hr : i ∈ Region.ready md ops listed) : listed.getD i false = false := by
  have h0 := (mem_ready.1 hr).1
  rcases Nat.lt_or_ge i listed.size with h' | h'
  · simp [h'] at h0 ⊢
    exact h0
  · simp [Array.getElem?_eq_none h']
theorem ready_early {i j : Nat} {listed : Array Bool} (hc : ClosedL md ops listed) (hw : lateB md ops m i = true) (hl : listed.getD i false = false) (hj : j ∈ Region.ready md ops listed) : j < m := by
  obtain ⟨-, o, ho, hall⟩ := mem_ready.1 hj
  unfold lateB at hw
  simp only [Bool.and_eq_true, List.all_eq_true, List.mem_range, Bool.or_eq_true, decide_eq_true_eq] at hw
  rcases hw.2 j (Array.getElem?_eq_some_iff.1 ho).1 with h | h
  · exact h
  · have := waits_listed hc _ _ h (fun o' ho' e he hb => by rw [ho] at ho'; cases ho'; exact hall e he hb)
    rw [hl] at this
    cases this
theorem closed_set {j : Nat} {listed : Array Bool} (hc : ClosedL md ops listed) (hj : j ∈ Region.ready md ops listed) : ClosedL md ops (listed.setIfInBounds j true) := by
  intro k o ho hk e he hb
  refine getD_set_true ?_
  by_cases hkj : k = j
  · subst hkj
    obtain ⟨-, o', ho', hall⟩ := mem_ready.1 hj
    rw [ho] at ho'
    cases ho'
    exact hall e he hb
  · exact hc k o ho (by rwa [getD_set_ne false (Ne.symm hkj)] at hk) e he hb
theorem till_first {i : Nat} {oi : Oper} {v : Value} (hi : ops[i]? = some oi) (hwait : lateB md ops m i = true) (hsel : ∀ (j : Nat) (o : Oper) cs b, ops[j]? = some o → o.op ≠ .select cs b)
    (hQ : ∀ c a w, Q (.panic c) (a.put oi.dst v) w → Q (.panic c) a w) :
    ∀ (fuel : Nat) (listed : Array Bool) (a : Act) (w : World), ClosedL md ops listed →
      (∀ j oj, ops[j]? = some oj → j ≠ i → listed.getD j true = false → (∀ e ∈ oj.after, Region.binds md e = true → e.on ≠ i) → oi.apart ops oj = true) →
      i ∈ Region.ready md ops listed → YieldsIf P ops S oi v a → S w →
      anyTill P md ops Q S m fuel (listed.setIfInBounds i true) (a.put oi.dst v) w → anyTill P md ops Q S m (fuel + 1) listed a w := by
  intro fuel
  induction fuel with
  | zero =>
    intro listed a w _ _ hr hy hS H
    refine ⟨fun h => (by rw [h] at hr; cases hr), fun j hj => ?_⟩
    rcases Nat.lt_trichotomy j i with hji | hji | hji
    · have := ready_mono hj (Nat.ne_of_lt hji)
      rw [H.1] at this
      cases this
    · subst hji
      exact hy.wpOp hi hS ⟨fun _ => hS, H⟩
    · have := ready_mono hj (Nat.ne_of_gt hji)
      rw [H.1] at this
      cases this
  | succ fuel ih =>
    intro listed a w hc hfree hr hy hS H
    refine ⟨fun h => (by rw [h] at hr; cases hr), fun j hj => ?_⟩
    by_cases hji : j = i
    · subst hji
      exact hy.wpOp hi hS ⟨fun _ => hS, H⟩
    · have hul := ready_unlisted hr
      have hjm : j < m := ready_early hc hwait hul hj
      obtain ⟨hjun, oj, hoj, hall⟩ := mem_ready.1 hj
      have hnot : ∀ e ∈ oj.after, Region.binds md e = true → e.on ≠ i := fun e he hb heq => by
        have h2 := hall e he hb
        rw [heq, hul] at h2
        cases h2
      refine wpOp_mono (fun a' w' h3 => ⟨h3.2.1, ih (listed.setIfInBounds j true) a' w' (closed_set hc hj) (fun k ok hk hki hun hno => hfree k ok hk hki ?_ hno) (ready_mono hr (Ne.symm hji)) h3.1 (h3.2.1 hjm) ?_⟩)
        (wpOp_putIf hoj (hfree j oj hoj hji hjun hnot) (fun cs b => hsel i oi cs b hi) (fun cs b => hsel j oj cs b hoj) hQ hy (H.2 j (ready_mono hj hji)))
      · by_cases hjk : j = k
        · subst hjk
          exact hjun
        · rwa [getD_set_ne true hjk] at hun
      · rw [Array.setIfInBounds_comm _ _ hji]
        exact h3.2.2
theorem till_yes {i : Nat} {oi : Oper} {rest : List Oper} {v : Value} {fuel : Nat} {listed : Array Bool} {a : Act} {w : World} (hd : ops.toList.drop i = oi :: rest) (hwait : lateB md ops m i = true) (hc : closedB md ops listed = true)
    (hs : Region.noSelect ops = true) (hf : Region.free md ops listed i = true) (hr : (Region.ready md ops listed).contains i = true)
    (hQ : ∀ c a w, Q (.panic c) (a.put oi.dst v) w → Q (.panic c) a w) (hw : Region.wanted oi (yielded ops a.tmps) = true) (hS : S w)
    (hy : ∀ w, S w → (execOp a.eval oi).run P w = .ok (.value v) w)
    (h : anyTill P md ops Q S m fuel (listed.setIfInBounds i true) (a.put oi.dst v) w) : anyTill P md ops Q S m (fuel + 1) listed a w :=
  till_first (at_drop hd) hwait (Region.noSelect_spec hs) hQ fuel listed a w (closedB_iff hc) (Region.free_spec (at_drop hd) hf) (by simpa using hr) (Or.inl ⟨hw, hy⟩) hS h
theorem till_no {i : Nat} {oi : Oper} {rest : List Oper} {fuel : Nat} {listed : Array Bool} {a : Act} {w : World} (hd : ops.toList.drop i = oi :: rest) (hwait : lateB md ops m i = true) (hc : closedB md ops listed = true)
    (hs : Region.noSelect ops = true) (hf : Region.free md ops listed i = true) (hr : (Region.ready md ops listed).contains i = true)
    (hQ : ∀ c a w, Q (.panic c) (a.put oi.dst undef) w → Q (.panic c) a w) (hw : Region.wanted oi (yielded ops a.tmps) = false) (hS : S w)
    (h : anyTill P md ops Q S m fuel (listed.setIfInBounds i true) (a.put oi.dst undef) w) : anyTill P md ops Q S m (fuel + 1) listed a w :=
  till_first (at_drop hd) hwait (Region.noSelect_spec hs) hQ fuel listed a w (closedB_iff hc) (Region.free_spec (at_drop hd) hf) (by simpa using hr) (Or.inr ⟨hw, rfl⟩) hS h
/-- The one operation that may come up. -/
theorem till_one {i : Nat} {oi : Oper} {rest : List Oper} {fuel : Nat} {listed : Array Bool} {a : Act} {w : World} (hd : ops.toList.drop i = oi :: rest) (hr : Region.ready md ops listed = [i])
    (h : ∀ K' : Act → World → Prop, Shut (∀ a w, S w → (S w → anyTill P md ops Q S m fuel (listed.setIfInBounds i true) a w) → K' a w) → if Region.wanted oi (yielded ops a.tmps) = true then Oper.wp P oi a w K' Q else K' (a.put oi.dst undef) w) :
    anyTill P md ops Q S m (fuel + 1) listed a w := by
  refine ⟨fun h0 => (by rw [hr] at h0; cases h0), fun j hj => ?_⟩
  rw [hr] at hj
  obtain rfl : j = i := by simpa using hj
  refine wpOp_step (at_drop hd) fun K' hK => h K' ?_
  exact fun a w hS hW => hK a w ⟨fun _ => hS, hW hS⟩
/-- From number m on. -/
theorem till_late {i : Nat} {oi : Oper} {rest : List Oper} {fuel : Nat} {listed : Array Bool} {a : Act} {w : World} (hd : ops.toList.drop i = oi :: rest) (hm : m ≤ i) (hr : Region.ready md ops listed = [i])
    (h : ∀ K' : Act → World → Prop, Shut (∀ a w, anyTill P md ops Q S m fuel (listed.setIfInBounds i true) a w → K' a w) → if Region.wanted oi (yielded ops a.tmps) = true then Oper.wp P oi a w K' Q else K' (a.put oi.dst undef) w) :
    anyTill P md ops Q S m (fuel + 1) listed a w := by
  refine ⟨fun h0 => (by rw [hr] at h0; cases h0), fun j hj => ?_⟩
  rw [hr] at hj
  obtain rfl : j = i := by simpa using hj
  refine wpOp_step (at_drop hd) fun K' hK => h K' ?_
  exact fun a w hW => hK a w ⟨fun h => (by omega), hW⟩
theorem till_done {listed : Array Bool} {a : Act} {w : World} (hr : Region.ready md ops listed = []) (h : Q .normal a w) : ∀ fuel, anyTill P md ops Q S m fuel listed a w
  | 0 => ⟨hr, h⟩
  | _ + 1 => ⟨fun _ => h, by rw [hr]; simp⟩
/-- The beginning, outside. -/
theorem wp_region_till {id : Nat} {a : Act} {w : World} (m : Nat) (hm : P.follows .mixedOrders = true) (hS : S w.drew)
    (h : S w.drew → anyTill P .any ops Q S m ops.size (Array.replicate ops.size false) a w.drew) : (Code.region id ops true).wp P Q a w :=
  wp_region_any hm (any_of_till _ _ _ _ (h hS))
/-- The beginning, in a round. -/
theorem wpIn_region_till {l n id : Nat} {a : Act} {w : World} (m : Nat) (hm : P.follows .mixedOrders = true) (hd : ∀ (i : Nat) (o : Oper), ops[i]? = some o → ∀ c, o.op ≠ .defer c) (hS : S w.drew)
    (h : S w.drew → anyTill P .any ops (Calm Q) S m ops.size (Array.replicate ops.size false) a w.drew) : (Code.region id ops true).wpIn (Fence.wide.inRound l) n P Q a w := by
  refine wpIn_mono (Q := Calm Q) ?_ Calm.imp
  refine wpIn_region_draw fun t => ?_
  simp only [Region.schedule, hm, Bool.true_or, if_true]
  exact ops_round hd _ _ _ (wpAny_sound ops.size t _ a _ (any_of_till _ _ _ _ (h hS)))
theorem noDefer {l : List Oper} (h : l.all (fun o => match o.op with | .defer _ => false | _ => true) = true) : ∀ (i : Nat) (o : Oper), l.toArray[i]? = some o → ∀ c, o.op ≠ .defer c := by
  intro i o ho c hc
  have hmem : o ∈ l := List.mem_of_getElem? (i := i) (by simpa using ho)
  have := List.all_eq_true.1 h o hmem
  rw [hc] at this
  cases this
/-! A range over a function whose variable lies in a box. -/
/-- The blocks below N, but p, are as they were. -/
def KeepX (p N : Nat) (A B : World) : Prop := ∀ k o, k < N → k ≠ p → A.heap[k]? = some o → B.heap[k]? = some o
theorem KeepX.refl (p N : Nat) (A : World) : KeepX p N A A := fun _ _ _ _ h => h
theorem KeepX.trans {p N : Nat} {A B C : World} (h : KeepX p N A B) (k : KeepX p N B C) : KeepX p N A C := fun i o hi hp ho => k i o hi hp (h i o hi hp ho)
theorem KeepX.alloc (p N : Nat) (A : World) (o : Obj) : KeepX p N A (A.alloc o) := fun i q hi hp hq => (Below.heap_alloc A o i (Array.getElem?_eq_some_iff.1 hq).1).trans hq
theorem KeepX.put {p N : Nat} {w : World} (hN : N ≤ w.heap.size) (W : World) (l : Nat) (o o' : Obj) (hl : w.heap.size ≤ l) (_ : W.heap[l]? = some o) (_ : o.isCells = false) (_ : o.isWalk = false) : KeepX p N W (W.putObj l o') := fun i q hi hp hq => by
  rw [World.putObj_heap_other (by omega)]
  exact hq
theorem KeepX.below {p N B : Nat} {A W : World} (h : Below B A W) (hN : N ≤ B) : KeepX p N A W := fun i o hi _ ho => (h.block i (by omega)).trans ho
theorem KeepX.cell {p N : Nat} {A B : World} (h : KeepX p N A B) {b o : Nat} {v : Value} (hb : b < N) (hp : b ≠ p) (hc : A.cell? ⟨b, o, none⟩ = some v) : B.cell? ⟨b, o, none⟩ = some v := by
  cases ho : A.heap[b]? with
  | none => simp [World.cell?, ho] at hc
  | some q =>
    have := h b q hb hp ho
    exact (World.cell?_of_block (w := A) (a := ⟨b, o, none⟩) (this.trans ho.symm)).trans hc
theorem KeepX.kept {p N : Nat} {w A B : World} (h : KeepX p N A B) (hw : Below w.heap.size w A) (hN : w.heap.size ≤ N) (hp : w.heap.size ≤ p) : CellsKept w B := fun b o v hc => by
  have hlt : b < w.heap.size := World.block_lt_of_cell? w ⟨b, o, none⟩ hc
  exact h.cell (by omega) (by omega) (bl_cell hw hc)
theorem KeepX.less {p N M : Nat} {A B : World} (h : KeepX p N A B) (hM : M ≤ N) : KeepX p M A B := fun k o hk hp ho => h k o (by omega) hp ho
theorem ownFrom_size {β : Type} (B n : Nat) : OwnFrom B (fun (_ : β) W => n ≤ W.heap.size) := fun _ _ _ _ hs hg _ => Nat.le_trans hs hg.size
theorem range_box {α : Type} {g : Operand} {p q : Tmp} {assign body : Code} {a : Act} {w : World} {n : Nat} (el : TypeId)
    (h1 : 1 ≤ n) {gf : Nat} {lb : Array Value} (hg : a.eval g = .func (.func gf) #[] lb) (eg : ∀ args w, (callFunc gf args).run P w = .ok (.enter gf args) w)
    {enc : α → List Value} {Kp : World → World → Prop} {S Sp : List α → Prop} {N : Nat} (hseq : SeqStopsK Fence.wide (n - 1) P gf lb (fun x => #[.agg (enc x).toArray]) Kp S Sp N w)
    (hKt : ∀ {A B C : World}, Kp A B → Kp B C → Kp A C) (hKb : ∀ (W : World) (l : Nat) (o o' : Obj), w.heap.size ≤ l → W.heap[l]? = some o → o.isCells = false → o.isWalk = false → Kp W (W.putObj l o')) (hKa : ∀ (A : World) o, Kp A (A.alloc o))
    (I : List α → World → Prop) (hI : OwnFrom w.heap.size I) (h0 : I [] w)
    (hassign : ∀ (l : Nat) (x : α) (W : World) (K : Act → World → Prop), K { tmps := (a.tmps.setIfInBounds p (.agg (enc x).toArray)).setIfInBounds q (.pointer (some ⟨W.heap.size, 0, none⟩)), defers := [] } (W.alloc (.cells (enc x).toArray el)) →
      assign.wpIn (Fence.wide.inRound l) (n - 1 - 1) P (Exit.then K (fun _ _ _ => False)) { tmps := a.tmps.setIfInBounds p (.agg (enc x).toArray), defers := [] } W)
    (hbody : ∀ (l : Nat) (pre : List α) (x : α) (Bx : Nat) (W : World), (∃ r, W.heap[l]? = some (.loop r)) → w.heap.size ≤ Bx → W.heap[Bx]? = some (.cells (enc x).toArray el (0, 0)) → I pre W → pre.length < N →
      body.wpIn (Fence.wide.inRound l) (n - 1 - 1) P (ownPostG w.heap.size Kp I (fun _ _ _ => False) (pre ++ [x]) W) { tmps := (a.tmps.setIfInBounds p (.agg (enc x).toArray)).setIfInBounds q (.pointer (some ⟨Bx, 0, none⟩)), defers := [] } W)
    (hsz : ∀ pre W, I pre W → w.heap.size ≤ W.heap.size)
    (hdone : ∀ (D : Nat) (xs : List α) (W : World), w.heap.size ≤ D → S xs → I xs W → W.heap[D]? = some (.deferred (some [])) → Q .normal { a with defers := { target := .collected D, args := #[] } :: a.defers } W) :
    (Code.rangeFunc g #[p] assign body).wpIn Fence.wide n P Q a w := by
  refine wpIn_rangeFunc_ownH rfl h1 hg trivial eg hseq hKt hKb (Below.refl _ _) (fun _ => rfl) I (fun _ _ _ => False) hI (fun _ _ _ _ _ h _ _ => h) h0
    (fun x a' W => ∃ Bx, w.heap.size ≤ Bx ∧ W.heap[Bx]? = some (.cells (enc x).toArray el (0, 0)) ∧ a' = { tmps := (a.tmps.setIfInBounds p (.agg (enc x).toArray)).setIfInBounds q (.pointer (some ⟨Bx, 0, none⟩)), defers := [] }) ?_ ?_ ?_ hdone (fun _ _ _ _ _ _ h _ => h.elim)
  · rintro x a' s X Y row ⟨Bx, hlt, hb, ha⟩ hg hr
    exact ⟨Bx, hlt, (hg.block Bx (Array.getElem?_eq_some_iff.1 hb).1 (fun e => by obtain ⟨-, o, ho, hc⟩ := hr Bx e.symm; rw [hb] at ho; cases ho; cases hc)).trans hb, ha⟩
  · intro l pre x W K hi hK
    have h := hassign l x W K (hK _ _ ((KeepsOthers.alloc _ _).from _) (hKa _ _) (hI.alloc _ hi) ⟨W.heap.size, hsz _ _ hi, World.alloc_heap_new W _, rfl⟩)
    have he : ∀ (u : Value) (t : Array Value), (#[p].zip #[u]).foldl (fun t (x : Tmp × Value) => t.setIfInBounds x.1 x.2) t = t.setIfInBounds p u := fun u t => by simp
    rw [he]
    exact h
  · rintro l pre x a' W hl hr hi ⟨Bx, h1, h2, rfl⟩ hlt
    exact hbody l pre x Bx W hr h1 h2 hi hlt
theorem range_boxN {α : Type} {g : Operand} {p q : Tmp} {assign body : Code} {a : Act} {w : World} {n l₀ : Nat} {r₀ : Loop} (el : TypeId) (hl₀ : w.heap[l₀]? = some (.loop r₀))
    (h1 : 1 ≤ n) {gf : Nat} {lb : Array Value} (hg : a.eval g = .func (.func gf) #[] lb) (eg : ∀ args w, (callFunc gf args).run P w = .ok (.enter gf args) w)
    {enc : α → List Value} {Kp : World → World → Prop} {S Sp : List α → Prop} {N : Nat} (hseq : SeqStopsK Fence.wide (n - 1) P gf lb (fun x => #[.agg (enc x).toArray]) Kp S Sp N w)
    (hKt : ∀ {A B C : World}, Kp A B → Kp B C → Kp A C) (hKb : ∀ (W : World) (l : Nat) (o o' : Obj), w.heap.size ≤ l → W.heap[l]? = some o → o.isCells = false → o.isWalk = false → Kp W (W.putObj l o')) (hKa : ∀ (A : World) o, Kp A (A.alloc o))
    (I : List α → World → Prop) (hI : OwnFrom w.heap.size I) (h0 : I [] w)
    (hassign : ∀ (l : Nat) (x : α) (W : World) (K : Act → World → Prop), K { tmps := (a.tmps.setIfInBounds p (.agg (enc x).toArray)).setIfInBounds q (.pointer (some ⟨W.heap.size, 0, none⟩)), defers := [] } (W.alloc (.cells (enc x).toArray el)) →
      assign.wpIn (Fence.wide.inRound l) (n - 1 - 1) P (Exit.then K (fun _ _ _ => False)) { tmps := a.tmps.setIfInBounds p (.agg (enc x).toArray), defers := [] } W)
    (hbody : ∀ (l : Nat) (pre : List α) (x : α) (Bx : Nat) (W : World), (∃ r, W.heap[l]? = some (.loop r)) → w.heap.size ≤ Bx → W.heap[Bx]? = some (.cells (enc x).toArray el (0, 0)) → I pre W → pre.length < N →
      body.wpIn (Fence.wide.inRound l) (n - 1 - 1) P (ownPostG w.heap.size Kp I (fun _ _ _ => False) (pre ++ [x]) W) { tmps := (a.tmps.setIfInBounds p (.agg (enc x).toArray)).setIfInBounds q (.pointer (some ⟨Bx, 0, none⟩)), defers := [] } W)
    (hsz : ∀ pre W, I pre W → w.heap.size ≤ W.heap.size)
    (hdone : ∀ (xs : List α) (W : World), S xs → I xs W → Q .normal a W) :
    (Code.rangeFunc g #[p] assign body).wpIn (Fence.wide.inRound l₀) n P Q a w := by
  refine wpIn_rangeFunc_ownN rfl hl₀ h1 hg trivial eg (hseq.inRound l₀) hKt hKb (Below.refl _ _) (fun _ => rfl) I (fun _ _ _ => False) hI (fun _ _ _ _ _ h _ _ => h) h0
    (fun x a' W => ∃ Bx, w.heap.size ≤ Bx ∧ W.heap[Bx]? = some (.cells (enc x).toArray el (0, 0)) ∧ a' = { tmps := (a.tmps.setIfInBounds p (.agg (enc x).toArray)).setIfInBounds q (.pointer (some ⟨Bx, 0, none⟩)), defers := [] }) ?_ ?_ ?_ hdone (fun _ _ _ _ h => h.elim)
  · rintro x a' s X Y row ⟨Bx, hlt, hb, ha⟩ hg hr
    exact ⟨Bx, hlt, (hg.block Bx (Array.getElem?_eq_some_iff.1 hb).1 (fun e => by obtain ⟨-, o, ho, hc⟩ := hr Bx e.symm; rw [hb] at ho; cases ho; cases hc)).trans hb, ha⟩
  · intro l pre x W K hi hK
    have h := hassign l x W K (hK _ _ ((KeepsOthers.alloc _ _).from _) (hKa _ _) (hI.alloc _ hi) ⟨W.heap.size, hsz _ _ hi, World.alloc_heap_new W _, rfl⟩)
    have he : ∀ (u : Value) (t : Array Value), (#[p].zip #[u]).foldl (fun t (x : Tmp × Value) => t.setIfInBounds x.1 x.2) t = t.setIfInBounds p u := fun u t => by simp
    rw [he]
    exact h
  · rintro l pre x a' W hl hr hi ⟨Bx, h1, h2, rfl⟩ hlt
    exact hbody l pre x Bx W hr h1 h2 hi hlt
/-- 'out = append(out, ..)' where out's box lies below what the slice owns. -/
theorem box_appended {W w1 : World} {n₀ B : Nat} {t e : TypeId} {size : Nat} {v v' : Value} {k m : Nat} {xs ys : List Value} {tmp : Obj}
    (hv : Boxed W B t v) (hte : t ≠ e) (hrow : W.ownsRow n₀ e size v k xs) (hn₀ : n₀ ≤ W.heap.size)
    (hown' : w1.ownsRow n₀ e size v' m ys) (hgrow : (W.alloc tmp).grownBy w1 v.ownBlock) :
    Boxed w1 B t v ∧ Boxed (w1.setCell ⟨B, 0, none⟩ v') B t v' ∧ (w1.setCell ⟨B, 0, none⟩ v').ownsRow n₀ e size v' m ys ∧ KeepsOthers W (w1.setCell ⟨B, 0, none⟩ v') ∧ KeepX B n₀ W (w1.setCell ⟨B, 0, none⟩ v') ∧ Below (min B n₀) W (w1.setCell ⟨B, 0, none⟩ v') := by
  have hv1 : Boxed w1 B t v := (hv.alloc tmp).kept hgrow (hv.not_row hte hrow)
  refine ⟨hv1, hv1.set v', hown'.kept (grownBy_setCell' w1 B v') (.inr (hv1.not_row hte hown').symm), ?_, ?_, ?_⟩
  · refine ((KeepsOthers.alloc W tmp).trans (KeepsOthers.of_grownBy hgrow fun j o ej hj => ?_)).trans (KeepsOthers.setCell _ _ _)
    rcases (hrow.alloc tmp).2 with ⟨rfl, _⟩ | ⟨g, cap, cur, rfl, _, hgb, _⟩
    · simp [Value.ownBlock] at ej
    · obtain rfl : g = j := by simpa [Value.ownBlock] using ej
      rw [hgb] at hj; cases hj; rfl
  · intro i o hi hp ho
    have h1 := KeepX.alloc B n₀ W tmp i o hi hp ho
    have hlt : i < (W.alloc tmp).heap.size := (Array.getElem?_eq_some_iff.1 h1).1
    have h2 : w1.heap[i]? = some o := (hgrow.block i hlt (fun e => by
      rcases hrow.2 with ⟨rfl, _⟩ | ⟨g, cap, cur, rfl, hb, _, _⟩
      · simp [Value.ownBlock] at e
      · obtain rfl : i = g := by simpa [Value.ownBlock] using e
        omega)).trans h1
    exact (Below.heap_setCell _ _ _ i hp).trans h2
  · refine (((Below.refl (min B n₀) W).alloc (by omega) tmp).grown hgrow (by simp; omega) fun j ej => ?_).setCell (p := ⟨B, 0, none⟩) (by simp; omega) v'
    rcases hrow.2 with ⟨rfl, _⟩ | ⟨g, cap, cur, rfl, hb, _, _⟩
    · simp [Value.ownBlock] at ej
    · obtain rfl : g = j := by simpa [Value.ownBlock] using ej
      omega
theorem step_app2 {t e : TypeId} {k bytes : Nat} {z : Value} {α : Type} {enc : α → List Value} {o : Oper} {a : Act} {K : Act → World → Prop} {E : Prop} (hgd : o.guard = none) (s x : Operand)
    (ho : o.op = .call { callee := .builtin .append, args := #[s, x], argTypes := #[t, t] })
    (T : ElT P t e k bytes z) (hk : ∀ x, (enc x).length = k) (h1 : ∀ x, ∀ u ∈ enc x, u.oneCell' = true) {w : World} {base n : Nat} {v src : Value} {xs ys : List α} (hv : a.eval s = v) (hx : a.eval x = src)
    (hn : n = xs.length) (hown : w.ownsRow base e k v n (xs.flatMap enc)) (hs : SAt enc k w src ys)
    (hb : base ≤ w.heap.size) (h63 : xs.length + ys.length ≤ maxLen) (hby : (xs.length + ys.length) * bytes ≤ 140737488355328)
    (h : ∀ v' w', w'.ownsRow base e k v' (xs ++ ys).length ((xs ++ ys).flatMap enc) → w.grownBy w' v.ownBlock → K (a.put o.dst v') w') :
    if Region.wanted o (yielded ops a.tmps) = true then Oper.wp P o a w K Q else E := by
  have hw : Region.wanted o (yielded ops a.tmps) = true := by simp [Region.wanted, hgd]
  rw [if_pos hw]
  obtain ⟨v', w', hrun, r1, r2⟩ := app_run T hk h1 o.type hn hown hs hb h63 hby
  unfold Oper.wp execOp
  simp only [ho, resolve, invoke, builtin, Sem.run_bind, Sem.run_pure, Result.andThen_ok, List.map_toArray, List.map_cons, List.map_nil, hv, hx, hrun]
  exact h v' w' r1 r2
end
end Go.Proofs.Ytnflgikmljfakaa
