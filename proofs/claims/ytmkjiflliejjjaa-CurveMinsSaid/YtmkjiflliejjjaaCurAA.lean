/- Curve: both. -/
import Derived.Test.YtmkjiflliejjjaaCurZ
import Derived.Maps.OwnIn
namespace Go.Proofs.Ytmkjiflliejjjaa
open Go.RowKit Go.Shelf Go.Sort
set_option linter.unusedVariables false
set_option linter.unusedSimpArgs false
attribute [local go_sem] Oper.semAt_some
/-- The sum of two lines, cut to 64 bits. -/
def sumW (x y : Ln) : Ln := ⟨wrap64 (x.b + y.b), wrap64 (x.r + y.r)⟩
def sumI (x y : Ln) : Ln := ⟨x.b + y.b, x.r + y.r⟩
def sumsW (a b : List Ln) : List Ln := a.flatMap fun x => b.map (sumW x)
/-- The lines of a sum of two. -/
def sumsL (a b : List Ln) : List Ln := a.flatMap fun x => b.map (sumI x)
theorem sumW_eq {x y : Ln} (hx : mayB x = true) (hy : mayB y = true) : sumW x y = sumI x y := by
  simp only [mayB, inB, Bool.and_eq_true, decide_eq_true_eq] at hx hy
  unfold sumW sumI wrap64
  simp only [Ln.mk.injEq]
  omega
theorem sumsW_eq {a b : List Ln} (ha : ∀ l ∈ a, mayB l = true) (hb : ∀ l ∈ b, mayB l = true) : sumsW a b = sumsL a b := by
  unfold sumsW sumsL
  induction a with
  | nil => rfl
  | cons x a ih =>
    rw [List.flatMap_cons, List.flatMap_cons, ih (fun l hl => ha l (List.mem_cons_of_mem _ hl)), List.map_congr_left fun y hy => sumW_eq (ha x (by simp)) (hb y hy)]
theorem sumsW_snoc (a b : List Ln) (x : Ln) : sumsW (a ++ [x]) b = sumsW a b ++ b.map (sumW x) := by simp [sumsW]
theorem sumsW_len (a b : List Ln) : (sumsW a b).length = a.length * b.length := by
  unfold sumsW
  induction a with
  | nil => simp
  | cons x a ih => rw [List.flatMap_cons, List.length_append, ih, List.length_map, List.length_cons, Nat.succ_mul, Nat.add_comm]
/-- So many blocks are kept. -/
def KeepB (S : Nat → Prop) (A B : World) : Prop := ∀ k o, S k → A.heap[k]? = some o → B.heap[k]? = some o
theorem KeepB.refl (S : Nat → Prop) (A : World) : KeepB S A A := fun _ _ _ h => h
theorem KeepB.trans {S : Nat → Prop} {A B C : World} (h : KeepB S A B) (k : KeepB S B C) : KeepB S A C := fun i o hi ho => k i o hi (h i o hi ho)
theorem KeepB.alloc (S : Nat → Prop) (A : World) (o : Obj) : KeepB S A (A.alloc o) := fun i q hi hq => (Below.heap_alloc A o i (Array.getElem?_eq_some_iff.1 hq).1).trans hq
theorem KeepB.put {S : Nat → Prop} {w : World} (hN : ∀ k, S k → k < w.heap.size) (W : World) (l : Nat) (o o' : Obj) (hl : w.heap.size ≤ l) (_ : W.heap[l]? = some o) (_ : o.isCells = false) (_ : o.isWalk = false) : KeepB S W (W.putObj l o') := fun i q hi hq => by
  have := hN i hi
  rw [World.putObj_heap_other (by omega)]
  exact hq
theorem KeepB.cell {S : Nat → Prop} {A B : World} (h : KeepB S A B) {b o : Nat} {v : Value} (hb : S b) (hc : A.cell? ⟨b, o, none⟩ = some v) : B.cell? ⟨b, o, none⟩ = some v := by
  cases ho : A.heap[b]? with
  | none => simp [World.cell?, ho] at hc
  | some q =>
    have := h b q hb ho
    exact (World.cell?_of_block (w := A) (a := ⟨b, o, none⟩) (this.trans ho.symm)).trans hc
theorem KeepB.less {S S' : Nat → Prop} {A B : World} (h : KeepB S A B) (hs : ∀ k, S' k → S k) : KeepB S' A B := fun k o hk ho => h k o (hs k hk) ho
theorem ownFrom_keepB {β : Type} {S : Nat → Prop} {B : Nat} {w₀ : World} (hB : ∀ k, S k → k < B) : OwnFrom B (fun (_ : β) W => KeepB S w₀ W) :=
  fun _ X Y row hs hg hr => fun k o hk h0 => by
    have hX := hs k o hk h0
    refine (hg.block k (Array.getElem?_eq_some_iff.1 hX).1 (fun e => ?_)).trans hX
    have h1 := (hr k e.symm).1
    have h2 := hB k hk
    omega
/-- Lines, whatever a round keeps of them. -/
theorem lines_stopsB (n : Nat) (hn : 1 ≤ n) (S : Nat → Prop) (bs : Nat) (V : Value) (ps : List Cv) (w : World) (hS0 : ∀ k, S k → k < w.heap.size) (hbs : w.cell? ⟨bs, 0, none⟩ = some V) (hS : ∀ X, KeepB S w X → CvsAt X V ps) :
    SeqStopsK Fence.wide n Try.prog 53 #[.pointer (some ⟨bs, 0, none⟩)] (fun x : Ln => #[.agg (Ln.cells x).toArray]) (KeepB S) (fun ys => ys = allLines ps) (fun pre => pre <+: allLines ps) (allLines ps).length w := fun l J Jx W hW hJ hJx hY h0 =>
  lines1_any n hn l bs V ps (KeepB S) (fun h k => h.trans k) (KeepB.refl S) (KeepB.alloc S) J Jx W hJ hY (bl_cell hW hbs) (fun X hX => hS X (KeepB.trans (fun k o hk ho => (hW.block k (hS0 k hk)).trans ho) hX)) h0
theorem cellsKept_put {W : World} {D : Nat} {o o' : Obj} (h : W.heap[D]? = some o) (hc : o.isCells = false) : CellsKept W (W.putObj D o') := fun b i v hv => by
  have hne : b ≠ D := fun e => by
    subst e
    cases o <;> simp [World.cell?, h, Obj.isCells] at hv hc
  exact (World.cell?_of_block (w := W) (a := ⟨b, i, none⟩) (World.putObj_heap_other (by omega))).trans hv
theorem ownFrom_keepX {β : Type} {p N B : Nat} {w₀ : World} (hB : N ≤ B) : OwnFrom B (fun (_ : β) W => KeepX p N w₀ W) :=
  fun _ X Y row hs hg hr => fun k o hk hp h0 => by
    have hX := hs k o hk hp h0
    refine (hg.block k (Array.getElem?_eq_some_iff.1 hX).1 (fun e => ?_)).trans hX
    have h1 := (hr k e.symm).1
    omega
/-- A range over a function whose variable lies in a box, of which something more is known (E). -/
theorem range_boxE {P : Program} {Q : Exit → Act → World → Prop} {α : Type} {g : Operand} {p q : Tmp} {assign body : Code} {a : Act} {w : World} {n : Nat} (el : TypeId)
    (h1 : 1 ≤ n) {gf : Nat} {lb : Array Value} (hg : a.eval g = .func (.func gf) #[] lb) (eg : ∀ args w, (callFunc gf args).run P w = .ok (.enter gf args) w)
    {enc : α → List Value} {Kp : World → World → Prop} {S Sp : List α → Prop} {N : Nat} (hseq : SeqStopsK Fence.wide (n - 1) P gf lb (fun x => #[.agg (enc x).toArray]) Kp S Sp N w)
    (hKt : ∀ {A B C : World}, Kp A B → Kp B C → Kp A C) (hKb : ∀ (W : World) (l : Nat) (o o' : Obj), w.heap.size ≤ l → W.heap[l]? = some o → o.isCells = false → o.isWalk = false → Kp W (W.putObj l o')) (hKa : ∀ (A : World) o, Kp A (A.alloc o))
    (I : List α → World → Prop) (hI : OwnFrom w.heap.size I) (h0 : I [] w) (E : Nat → World → Prop) (hE : ∀ b, OwnFrom w.heap.size (fun (_ : Unit) W => E b W)) (hE0 : ∀ pre x W, I pre W → E W.heap.size (W.alloc (.cells (enc x).toArray el)))
    (hassign : ∀ (l : Nat) (x : α) (W : World) (K : Act → World → Prop), K { tmps := (a.tmps.setIfInBounds p (.agg (enc x).toArray)).setIfInBounds q (.pointer (some ⟨W.heap.size, 0, none⟩)), defers := [] } (W.alloc (.cells (enc x).toArray el)) →
      assign.wpIn (Fence.wide.inRound l) (n - 1 - 1) P (Exit.then K (fun _ _ _ => False)) { tmps := a.tmps.setIfInBounds p (.agg (enc x).toArray), defers := [] } W)
    (hbody : ∀ (l : Nat) (pre : List α) (x : α) (Bx : Nat) (W : World), (∃ r, W.heap[l]? = some (.loop r)) → w.heap.size ≤ Bx → W.heap[Bx]? = some (.cells (enc x).toArray el (0, 0)) → E Bx W → I pre W → pre.length < N →
      body.wpIn (Fence.wide.inRound l) (n - 1 - 1) P (ownPostG w.heap.size Kp I (fun _ _ _ => False) (pre ++ [x]) W) { tmps := (a.tmps.setIfInBounds p (.agg (enc x).toArray)).setIfInBounds q (.pointer (some ⟨Bx, 0, none⟩)), defers := [] } W)
    (hsz : ∀ pre W, I pre W → w.heap.size ≤ W.heap.size)
    (hdone : ∀ (D : Nat) (xs : List α) (W : World), w.heap.size ≤ D → S xs → I xs W → W.heap[D]? = some (.deferred (some [])) → Q .normal { a with defers := { target := .collected D, args := #[] } :: a.defers } W) :
    (Code.rangeFunc g #[p] assign body).wpIn Fence.wide n P Q a w := by
  refine wpIn_rangeFunc_ownH rfl h1 hg trivial eg hseq hKt hKb (Below.refl _ _) (fun _ => rfl) I (fun _ _ _ => False) hI (fun _ _ _ _ _ h _ _ => h) h0
    (fun x a' W => ∃ Bx, w.heap.size ≤ Bx ∧ W.heap[Bx]? = some (.cells (enc x).toArray el (0, 0)) ∧ E Bx W ∧ a' = { tmps := (a.tmps.setIfInBounds p (.agg (enc x).toArray)).setIfInBounds q (.pointer (some ⟨Bx, 0, none⟩)), defers := [] }) ?_ ?_ ?_ hdone (fun _ _ _ _ _ _ h _ => h.elim)
  · rintro x a' s X Y row ⟨Bx, hlt, hb, he, ha⟩ hg hr
    exact ⟨Bx, hlt, (hg.block Bx (Array.getElem?_eq_some_iff.1 hb).1 (fun e => by obtain ⟨-, o, ho, hc⟩ := hr Bx e.symm; rw [hb] at ho; cases ho; cases hc)).trans hb, hE Bx () X Y row he hg hr, ha⟩
  · intro l pre x W K hi hK
    have h := hassign l x W K (hK _ _ ((KeepsOthers.alloc _ _).from _) (hKa _ _) (hI.alloc _ hi) ⟨W.heap.size, hsz _ _ hi, World.alloc_heap_new W _, hE0 pre x W hi, rfl⟩)
    have he : ∀ (u : Value) (t : Array Value), (#[p].zip #[u]).foldl (fun t (x : Tmp × Value) => t.setIfInBounds x.1 x.2) t = t.setIfInBounds p u := fun u t => by simp
    rw [he]
    exact h
  · rintro l pre x a' W hl hr hi ⟨Bx, h1, h2, h3, rfl⟩ hlt
    exact hbody l pre x Bx W hr h1 h2 h3 hi hlt
set_option maxRecDepth 100000 in
set_option maxHeartbeats 20000000 in
theorem both_any (va vb : Value) (a b : List Ln) (w : World) (ha : SAt Ln.cells 2 w va a) (hb : SAt Ln.cells 2 w vb b) (hma : ∀ l ∈ a, mayB l = true) (hmb : ∀ l ∈ b, mayB l = true) (hl : a.length * b.length ≤ 1000000) :
    Calls Try.prog 44 #[va, vb] w fun e w' => (∃ v', e = .returned v' ∧ SAt Ln.cells 2 w' v' (lowL (sumsL a b))) ∧ Below w.heap.size w w' := by
  obtain ⟨A, c, rfl⟩ := ha.slice
  obtain ⟨B, d, rfl⟩ := hb.slice
  have HA := Lib.hid ha
  have HB := Lib.hid hb
  have HMM := Lib.hid (And.intro hma hmb)
  clear ha hb hma hmb
  refine callsIn_wide (n := 12) |>.1 ?_
  refine callsIn_of_wp_marks Try.func44 rfl trivial ?_ rfl
  simp only [Try.ntmps44, List.size_toArray, List.length_cons, List.length_nil, Nat.reduceAdd, Nat.reduceSub, Array.replicate_succ, Array.replicate_zero, List.push_toArray, List.append_toArray, List.nil_append, List.cons_append]
  refine wpIn_wide.2 ?_
  go_wp2_with (go_at_call 40; refine (lines_any _ _ _ _).mono ?_; rintro e w3 ⟨rfl, hw3⟩; have HW3 := Lib.hid hw3; clear hw3)
  have hw3 := HW3.out
  have hz3 : w3.heap.size = w.heap.size + 4 := by rw [hw3]; simp
  have hb3 : Below w.heap.size w w3 := by rw [hw3]; repeat (first | exact Below.refl _ _ | refine bl_alloc ?_ _)
  have hcb : w3.cell? ⟨w.heap.size, 0, none⟩ = some (.slice B b.length d) := by rw [hw3]; go_simp
  have hx3 : Boxed w3 (w.heap.size + 1) 22 (.slice none 0 0) := by
    rw [hw3]
    have := ((Boxed.new (w.alloc (.cells #[.slice B b.length d] 24)) 22 (.slice none 0 0)).alloc (.cells #[.slice A a.length c] 24)).alloc (.cells #[.slice (some ⟨w.heap.size + 2, 0, none⟩) 1 1] 56)
    simpa using this
  have hs3 : w3.cell? ⟨w.heap.size + 2, 0, none⟩ = some (.slice A a.length c) := by rw [hw3]; go_simp
  have hl3 : w3.cell? ⟨w.heap.size + 3, 0, none⟩ = some (.slice (some ⟨w.heap.size + 2, 0, none⟩) 1 1) := by rw [hw3]; go_simp
  have hcv : ∀ X, KeepX (w.heap.size + 1) (w.heap.size + 4) w3 X → CvsAt X (.slice (some ⟨w.heap.size + 2, 0, none⟩) 1 1) [(.slice A a.length c, a)] := fun X hX => cv_one rfl (hX.cell (by omega) (by omega) hs3) (HA.out.kept (hX.kept hb3 (by omega) (by omega)))
  have hst := lines_stops 11 (by omega) (w.heap.size + 1) (w.heap.size + 4) (w.heap.size + 3) _ _ w3 (by omega) hl3 hcv
  rw [all_one] at hst
  have hbx : Boxed w3 (w.heap.size + 1) 22 (.slice none 0 0) := hx3
  clear hcv hs3 hl3 hw3 hx3
  rw [show w.heap.size + 1 + 1 + 1 = w.heap.size + 3 from rfl]
  refine (wpIn_wide (n := 12)).1 ?_
  refine range_boxE (p := 11) (q := 6) 39 (by omega) rfl enc_lines1 hst (fun h k => h.trans k) (KeepX.put (by omega)) (KeepX.alloc _ _)
    (fun pre W => ((∃ v, Boxed W (w.heap.size + 1) 22 v ∧ W.ownsRow (w.heap.size + 4) 39 2 v (sumsW pre b).length ((sumsW pre b).flatMap Ln.cells) ∧ True) ∧ KeepX (w.heap.size + 1) (w.heap.size + 4) w3 W ∧ Below w.heap.size w W) ∧ w3.heap.size ≤ W.heap.size) ?hI ?h0
    (fun Bx W => ∃ v, Boxed W (w.heap.size + 1) 22 v ∧ v.ownBlock ≠ some Bx) ?hE ?hE0 ?hassign ?hbody ?hsz ?hdone
  case hI => exact OwnFrom.and (OwnFrom.and (Own.from (holdsRow_own (w.heap.size + 4) (w.heap.size + 1) 22 39 2 (fun pre : List Ln => (sumsW pre b).length) (fun pre => (sumsW pre b).flatMap Ln.cells) (fun _ _ => True)) _) (OwnFrom.and (ownFrom_keepX (by omega)) (ownFrom_below (n₀ := w.heap.size) (Nat.le_refl _) (by omega)))) (ownFrom_size _ _)
  case h0 => exact ⟨⟨⟨_, hbx, World.ownsRow_nil _ _ _ _, trivial⟩, KeepX.refl _ _ _, hb3⟩, Nat.le_refl _⟩
  case hE =>
    rintro Bx s X Y row ⟨v, hv, hne⟩ hg hr
    exact ⟨v, (Own.from (boxed_own (w.heap.size + 1) 22 (fun _ : Unit => v)) 0) () X Y row hv hg (fun r e => ⟨Nat.zero_le _, (hr r e).2⟩), hne⟩
  case hE0 =>
    rintro pre x W ⟨⟨⟨v, hv, hrow, -⟩, -, -⟩, -⟩
    refine ⟨v, hv.alloc _, fun e => ?_⟩
    rcases hrow.2 with ⟨rfl, _⟩ | ⟨g, cap, cur, rfl, _, hgb, _⟩
    · simp [Value.ownBlock] at e
    · have h1 := (Array.getElem?_eq_some_iff.1 hgb).1
      have h2 : g = W.heap.size := by simpa [Value.ownBlock] using e
      omega
  case hsz => rintro pre W ⟨-, hB⟩; exact hB
  case hassign =>
    intro l x W K hK
    simp only [Ln.cells] at hK ⊢
    gi_wp2
    exact hK
  case hbody =>
    rintro l pre x Bx W ⟨r, hr⟩ hBx hbx ⟨u, hu, hune⟩ ⟨⟨⟨v, hv, hrow, -⟩, hKX, hB⟩, hZ⟩ hlt
    simp only [List.setIfInBounds_toArray, List.set_cons_zero, List.set_cons_succ, Ln.cells] at hbx ⊢
    have huv : u = v := by
      have := hu.symm.trans hv
      simpa using this
    subst huv
    have hcb' : W.cell? ⟨w.heap.size, 0, none⟩ = some (.slice B b.length d) := hKX.cell (by omega) (by omega) hcb
    have hcx : W.cell? ⟨Bx, 0, none⟩ = some (.int .i64 x.b) := by simp [World.cell?, hbx]
    have hBxl : Bx < W.heap.size := (Array.getElem?_eq_some_iff.1 hbx).1
    gi_wp2_with fail
    refine ⟨trivial, CallsIn.mono (CallsIn.inRound l (callsIn_wide.2 (lines_any _ _ _ _))) ?_⟩
    rintro e W2 ⟨rfl, hw2⟩
    have hz2 : W2.heap.size = W.heap.size + 2 := by rw [hw2]; simp
    have hbW : Below W.heap.size W W2 := by rw [hw2]; repeat (first | exact Below.refl _ _ | refine bl_alloc ?_ _)
    have hq1 : W2.cell? ⟨W.heap.size, 0, none⟩ = some (.slice B b.length d) := by rw [hw2]; go_simp
    have hq2 : W2.cell? ⟨W.heap.size + 1, 0, none⟩ = some (.slice (some ⟨W.heap.size, 0, none⟩) 1 1) := by rw [hw2]; go_simp
    have hr2 : W2.heap[l]? = some (.loop r) := (hbW.block l (Array.getElem?_eq_some_iff.1 hr).1).trans hr
    have hbx2 : W2.heap[Bx]? = some (.cells #[.int .i64 x.b, .int .i64 x.r] 39 (0, 0)) := (hbW.block Bx hBxl).trans hbx
    have hv2 : Boxed W2 (w.heap.size + 1) 22 u := (hbW.block _ hv.lt).trans hv
    have hrow2 := own_lies hrow hbW
    have hB2 : Below w.heap.size w W2 := hB.trans (hbW.mono hB.size)
    obtain ⟨S, hS⟩ : ∃ S : Nat → Prop, S = fun k => (k < w.heap.size + 4 ∧ k ≠ w.heap.size + 1) ∨ k = W.heap.size ∨ k = W.heap.size + 1 ∨ k = Bx := ⟨_, rfl⟩
    have hSlt : ∀ k, S k → k < W2.heap.size := fun k hk => by rw [hS] at hk; omega
    have hS0 : ∀ k, k < w.heap.size + 4 → k ≠ w.heap.size + 1 → S k := fun k h1 h2 => by rw [hS]; exact .inl ⟨h1, h2⟩
    have hSa : S W.heap.size := by rw [hS]; exact .inr (.inl rfl)
    have hSx : S Bx := by rw [hS]; exact .inr (.inr (.inr rfl))
    have hSp : ∀ k, S k → k ≠ w.heap.size + 1 := fun k hk => by rw [hS] at hk; omega
    have hSn : ∀ k, S k → ∀ g, w.heap.size + 4 ≤ g → g ≠ W.heap.size → g ≠ W.heap.size + 1 → g ≠ Bx → k ≠ g := fun k hk g => by rw [hS] at hk; omega
    have hcv2 : ∀ X, KeepB S W2 X → CvsAt X (.slice (some ⟨W.heap.size, 0, none⟩) 1 1) [(.slice B b.length d, b)] := fun X hX => cv_one rfl (hX.cell hSa hq1) (HB.out.kept fun b' o' v' hc => by
      have hlt' : b' < w.heap.size := World.block_lt_of_cell? w ⟨b', o', none⟩ hc
      exact hX.cell (hS0 b' (by omega) (by omega)) (bl_cell hB2 hc))
    have hst2 := lines_stopsB (12 - 1 - 1 - 1) (by omega) S (W.heap.size + 1) _ _ W2 hSlt hq2 hcv2
    rw [all_one] at hst2
    have hgu : ∀ g, u.ownBlock = some g → g ≠ W.heap.size ∧ g ≠ W.heap.size + 1 ∧ g ≠ Bx := fun g hg => by
      refine ⟨?_, ?_, fun e => hune (by rw [hg, e])⟩
      all_goals
        have := (hrow.lt g hg).2
        omega
    have HW2 := Lib.hid hw2
    clear hw2 hq1 hq2 hcv2 hS hr hcx hcb' hu hune hrow hv
    gi_wp2_with fail
    refine range_boxN (p := 15) (q := 7) 39 hr2 (by omega) rfl enc_lines1 hst2 (fun h k => h.trans k) (KeepB.put hSlt) (KeepB.alloc _)
      (fun pre2 X => (∃ v, Boxed X (w.heap.size + 1) 22 v ∧ X.ownsRow (w.heap.size + 4) 39 2 v (sumsW pre b ++ pre2.map (sumW x)).length ((sumsW pre b ++ pre2.map (sumW x)).flatMap Ln.cells) ∧ ∀ g, v.ownBlock = some g → g ≠ W.heap.size ∧ g ≠ W.heap.size + 1 ∧ g ≠ Bx) ∧ KeepB S W2 X ∧ Below w.heap.size w X ∧ KeepsFrom w3.heap.size W X ∧ W2.heap.size ≤ X.heap.size) ?hI2 ?h02 ?hassign2 ?hbody2 ?hsz2 ?hdone2
    case hI2 => exact OwnFrom.and (Own.from (holdsRow_own (w.heap.size + 4) (w.heap.size + 1) 22 39 2 (fun pre2 : List Ln => (sumsW pre b ++ pre2.map (sumW x)).length) (fun pre2 => (sumsW pre b ++ pre2.map (sumW x)).flatMap Ln.cells) (fun _ v => ∀ g, v.ownBlock = some g → g ≠ W.heap.size ∧ g ≠ W.heap.size + 1 ∧ g ≠ Bx)) _) (OwnFrom.and (ownFrom_keepB hSlt) (OwnFrom.and (ownFrom_below (n₀ := w.heap.size) (Nat.le_refl _) (by have := hB.size; omega)) (OwnFrom.and (ownFrom_keepsFrom (by omega)) (ownFrom_size _ _))))
    case h02 => exact ⟨⟨u, hv2, by simpa using hrow2, hgu⟩, KeepB.refl _ _, hB2, (KeepsOthers.from (by rw [HW2.out]; exact (KeepsOthers.alloc _ _).trans (KeepsOthers.alloc _ _)) _), Nat.le_refl _⟩
    case hsz2 => rintro pre2 X ⟨-, -, -, -, h⟩; exact h
    case hassign2 =>
      intro l2 y X K hK
      simp only [Ln.cells] at hK ⊢
      gi_wp2
      exact hK
    case hbody2 =>
      rintro l2 pre2 y By X ⟨r2, hr2'⟩ hBy hby ⟨⟨v2, hv2, hrow2, hG⟩, hKB, hB2, hKF, hZ2⟩ hlt2
      simp only [List.setIfInBounds_toArray, List.set_cons_zero, List.set_cons_succ, Ln.cells] at hby ⊢
      have c0 := hv2.cell
      have hXz : w.heap.size + 4 ≤ X.heap.size := by omega
      have hcx : X.cell? ⟨Bx, 0, none⟩ = some (.int .i64 x.b) := by have := hKB Bx _ hSx hbx2; simp [World.cell?, this]
      have hcx1 : X.cell? ⟨Bx, 1, none⟩ = some (.int .i64 x.r) := by have := hKB Bx _ hSx hbx2; simp [World.cell?, this]
      have hcy : X.cell? ⟨By, 0, none⟩ = some (.int .i64 y.b) := by simp [World.cell?, hby]
      have hcy1 : X.cell? ⟨By, 1, none⟩ = some (.int .i64 y.r) := by simp [World.cell?, hby]
      have hlen2 : (sumsW pre b ++ pre2.map (sumW x)).length + 1 ≤ 1000000 := by
        rw [List.length_append, sumsW_len, List.length_map]
        have h1 : (pre.length + 1) * b.length ≤ a.length * b.length := Nat.mul_le_mul_right _ hlt
        rw [Nat.succ_mul] at h1
        omega
      obtain ⟨M, hM⟩ : ∃ M, M = (sumsW pre b ++ pre2.map (sumW x)).length := ⟨_, rfl⟩
      rw [← hM] at hrow2 hlen2
      have HM := Lib.hid hM
      clear hM
      obtain ⟨i0, hi, hz0, hz1, hzz⟩ := info_parts info_ln
      gi_wp2_with (gi_at_builtin; refine wpListIn_append_own_at _ rfl _ _ 22 rfl (w.heap.size + 4) 39 i0 (.agg #[.int .i64 0, .int .i64 0]) 2 16 Try.underlying22 hi hz0 hz1 hzz rfl (by decide) _ _ _ rfl (hrow2.alloc _) ⟨X.heap.size, 0, none⟩ 1 1 (Ln.cells (sumW x y)) rfl rfl ?qc2 ?qc3 ?qc4 ?qc5 ?qc6 ?_)
      case qc2 => exact fun j' u hj' => by rw [Addr.add_lit]; exact RowAt.flat (enc := Ln.cells) (k := 2) (fun _ => rfl) (rowAt_new (enc := Ln.cells) (k := 2) (fun _ => rfl) X 39 [sumW x y] (b := X.heap.size) rfl (by simp [Ln.cells, sumW])) j' u (by simpa using hj')
      case qc3 => exact fun u hu => by simp [Ln.cells] at hu; rcases hu with rfl | rfl <;> rfl
      case qc4 => unfold maxLen; omega
      case qc5 => omega
      case qc6 => simp; omega
      intro v' w1 hown' hgrow _ hblk
      obtain ⟨A6, c6, rfl⟩ := own_form hown'
      obtain ⟨q1, q2, q3, q4, q5, q6⟩ := box_appended hv2 (by decide) hrow2 hXz hown' hgrow
      have hkeep : KeepB S X (w1.setCell ⟨w.heap.size + 1, 0, none⟩ (.slice A6 (M + 1) c6)) := fun k o hk ho => by
        have hlt3 := (Array.getElem?_eq_some_iff.1 ho).1
        refine (Below.heap_setCell _ _ _ k (hSp k hk)).trans ((hgrow.block k (by simp; omega) (fun e => ?_)).trans (KeepB.alloc S X _ k o hk ho))
        have e' := e.symm
        have h1 := hG k (by first | exact e | exact e')
        exact hSn k hk k (hrow2.lt k (by first | exact e | exact e')).1 h1.1 h1.2.1 h1.2.2 rfl
      have hG' : ∀ g, (Value.slice A6 (M + 1) c6).ownBlock = some g → g ≠ W.heap.size ∧ g ≠ W.heap.size + 1 ∧ g ≠ Bx := fun g hg => by
        rcases hblk with h | h
        · exact hG g (by rw [← h]; exact hg)
        · rw [h] at hg
          simp at hg
          omega
      have HF := Lib.hid (And.intro q2 (And.intro q3 (And.intro q4 (And.intro q6 (And.intro hkeep hG')))))
      have k0 := q1.cell
      have k1 := q1.frozen
      have HK := Lib.hid hKB
      clear q2 q3 q4 q5 q6 hkeep hG' hblk hG hKB hSn hSp hS0 hSlt
      gi_wp2
      obtain ⟨q2, q3, q4, q6, hkeep, hG'⟩ := HF.out
      have hK6 := HK.out
      refine ⟨q4.from _, hkeep, ⟨_, q2, ?_, hG'⟩, hK6.trans hkeep, hB2.trans ⟨q6.os, q6.tape, q6.output, q6.size, fun k hk => q6.block k (by omega)⟩, hKF.trans (q4.from _), Nat.le_trans hZ2 q6.size⟩
      have hm := HM.out
      rw [show (sumsW pre b ++ List.map (sumW x) (pre2 ++ [y])).length = M + 1 by rw [hm]; simp <;> omega, List.map_append, List.map_cons, List.map_nil, ← List.append_assoc, List.flatMap_append]
      simpa using q3
    case hdone2 =>
      rintro xs X rfl ⟨⟨v2, hv2, hrow2, hG⟩, hKB, hB2, hKF, hZ2⟩
      have hKX' : KeepX (w.heap.size + 1) (w.heap.size + 4) W X := fun k o hk hp ho => hKB k o (hS0 k hk hp) ((hbW.block k (Array.getElem?_eq_some_iff.1 ho).1).trans ho)
      exact ⟨hKF, hKX', ⟨⟨v2, hv2, by rw [sumsW_snoc]; exact hrow2, trivial⟩, hKX.trans hKX', hB2⟩, by omega⟩
  case hdone =>
    rintro D ys W hD rfl ⟨⟨⟨v, hv, hrow, -⟩, hKX, hB⟩, hZ⟩ hK
    have hse := sumsW_eq HMM.out.1 HMM.out.2
    rw [hse] at hrow
    have hfit : ∀ l ∈ sumsL ys b, fits l := fun l hl => by
      unfold sumsL at hl
      obtain ⟨x, hx, hl⟩ := List.mem_flatMap.1 hl
      obtain ⟨y, hy, rfl⟩ := List.mem_map.1 hl
      have h1 := HMM.out.1 x hx
      have h2 := HMM.out.2 y hy
      simp only [mayB, inB, Bool.and_eq_true, decide_eq_true_eq] at h1 h2
      unfold fits sumI
      simp only
      omega
    have hlen : (sumsL ys b).length ≤ 1000000 := by rw [← hse, sumsW_len]; exact hl
    have hlo := lower_any v (sumsL ys b) W (SAt.ofOwn (enc := Ln.cells) (fun _ => rfl) rfl hrow) hfit hlen
    obtain ⟨A7, c7, rfl⟩ := own_form hrow
    have c0 := hv.cell
    have HLO := Lib.hid hlo
    have HBB := Lib.hid hB
    have HKD := Lib.hid hK
    have hDs : D < W.heap.size := (Array.getElem?_eq_some_iff.1 HKD.out).1
    have hwD : w.heap.size ≤ D := by omega
    clear hrow hv hB hK hse hfit hlo hKX hst hbx hb3 hcb HW3
    generalize hls : sumsL ys b = ls at *
    have HLS := Lib.hid hls
    clear hls
    go_wp2_with fail
    refine HLO.out.mono ?_
    rintro e w9 ⟨⟨v9, out, rfl, hlow, hs9⟩, hb9⟩
    obtain rfl := low_is hlow
    have HF := Lib.hid (And.intro hs9 hb9)
    clear hlow hs9 hb9
    go_wp2_with fail
    have hK2 : w9.heap[D]? = some (.deferred (some [])) := (HF.out.2.block D hDs).trans HKD.out
    refine ⟨by simp, .inl ⟨_, _, rfl, run_takeDeferred hK2, ?_⟩⟩
    refine ⟨_, results_tmp rfl _ _ _, ⟨v9, rfl, by rw [HLS.out]; exact HF.out.1.kept (cellsKept_put hK2 rfl)⟩, ?_⟩
    exact (bl_then HBB.out HF.out.2).trans (belowK_b (w := w) (Nat.le_refl _) _ D _ _ hwD hK2 rfl rfl)
end Go.Proofs.Ytmkjiflliejjjaa
