/- Curve: lines in order. -/
import Derived.Test.YtmkjiflliejjjaaCurB
import Derived.Test.YtmkjiflliejjjaaSort
import Derived.Test.YtmkjiflliejjjaaShelf
import Derived.Deep.RegionHeld3
namespace Go.Proofs.Ytmkjiflliejjjaa
open Go.RowKit Go.Shelf Go.Sort
set_option linter.unusedVariables false
set_option linter.unusedSimpArgs false
attribute [local go_sem] Oper.semAt_some
def cmpI (a b : Int) : Int := if a < b then -1 else if b < a then 1 else 0
theorem cmpI_lt (a b : Int) : cmpI a b < 0 ↔ a < b := by
  unfold cmpI
  split
  · omega
  · split <;> omega
set_option maxHeartbeats 400000 in
theorem isNaN_any (a : Int) (w : World) :
    Calls Try.prog 63 #[.int .i64 a] w fun e w' => e = .returned (.bool false) ∧ w = w' := by
  go_enter Try.func63, Try.ntmps63
  go_wp2
  go_ret
  exact ⟨rfl, rfl⟩
set_option maxHeartbeats 400000 in
theorem cmp_any (a b : Int) (w : World) :
    Calls Try.prog 51 #[.int .i64 a, .int .i64 b] w fun e w' => e = .returned (.int .i64 (cmpI a b)) ∧ w = w' := by
  by_cases h1 : a < b
  · have hc : cmpI a b = -1 := by unfold cmpI; rw [if_pos h1]
    rw [hc]
    go_enter Try.func51, Try.ntmps51
    go_wp2_with (go_at_call 63; refine (isNaN_any _ _).mono ?_; rintro e w' ⟨rfl, rfl⟩)
    go_ret
    exact ⟨rfl, rfl⟩
  · by_cases h2 : b < a
    · have hc : cmpI a b = 1 := by unfold cmpI; rw [if_neg h1, if_pos h2]
      rw [hc]
      go_enter Try.func51, Try.ntmps51
      go_wp2_with (go_at_call 63; refine (isNaN_any _ _).mono ?_; rintro e w' ⟨rfl, rfl⟩)
      go_ret
      exact ⟨rfl, rfl⟩
    · have hc : cmpI a b = 0 := by unfold cmpI; rw [if_neg h1, if_neg h2]
      rw [hc]
      go_enter Try.func51, Try.ntmps51
      go_wp2_with (go_at_call 63; refine (isNaN_any _ _).mono ?_; rintro e w' ⟨rfl, rfl⟩)
      go_ret
      exact ⟨rfl, rfl⟩
/-- The first of two numbers that is not 0. -/
def orI (a b : Int) : Int := if a = 0 then b else a
set_option maxHeartbeats 400000 in
theorem or_any (a b : Int) (bl : Nat) (w : World) (h0 : w.cell? ⟨bl, 0, none⟩ = some (.int .i64 a)) (h1 : w.cell? ⟨bl, 1, none⟩ = some (.int .i64 b)) :
    Calls Try.prog 50 #[.slice (some ⟨bl, 0, none⟩) 2 2] w fun e w' => e = .returned (.int .i64 (orI a b)) ∧ w = w' := by
  by_cases ha : a = 0
  · have hr : orI a b = b := by unfold orI; rw [if_pos ha]
    rw [hr]
    subst ha
    by_cases hb : b = 0
    · subst hb
      go_enter Try.func50, Try.ntmps50
      go_wp2_with fail
      go_loopg [8] 3 (fun gg s8 wr => ∃ k : Nat, k ≤ 2 ∧ 2 - k ≤ gg ∧ s8 = .int .i64 k ∧ w = wr)
      case atStart => exact ⟨0, by omega, by omega, rfl, rfl⟩
      case round =>
        obtain ⟨k, hk, hgg, rfl, rfl⟩ := hrel
        have hk3 : k = 0 ∨ k = 1 ∨ k = 2 := by omega
        rcases hk3 with rfl | rfl | rfl
        · go_wp2_with fail
          go_roundg 1
          case measure => omega
          case rel => exact ⟨1, by omega, by omega, by go_num, rfl⟩
        · go_wp2_with fail
          go_roundg 0
          case measure => omega
          case rel => exact ⟨2, by omega, by omega, by go_num, rfl⟩
        · go_wp2_with fail
          go_ret
          exact ⟨rfl, rfl⟩
    · have hbb : (b != 0) = true := by simpa using hb
      go_enter Try.func50, Try.ntmps50
      go_wp2_with fail
      go_loopg [8] 3 (fun gg s8 wr => ∃ k : Nat, k ≤ 1 ∧ 2 - k ≤ gg ∧ s8 = .int .i64 k ∧ w = wr)
      case atStart => exact ⟨0, by omega, by omega, rfl, rfl⟩
      case round =>
        obtain ⟨k, hk, hgg, rfl, rfl⟩ := hrel
        have hk3 : k = 0 ∨ k = 1 := by omega
        rcases hk3 with rfl | rfl
        · go_wp2_with fail
          go_roundg 1
          case measure => omega
          case rel => exact ⟨1, by omega, by omega, by go_num, rfl⟩
        · go_wp2_with fail
          go_ret
          exact ⟨rfl, rfl⟩
  · have hr : orI a b = a := by unfold orI; rw [if_neg ha]
    rw [hr]
    have hab : (a != 0) = true := by simpa using ha
    go_enter Try.func50, Try.ntmps50
    go_wp2_with fail
    go_loopg [8] 1 (fun gg s8 wr => s8 = .int .i64 0 ∧ w = wr)
    case atStart => exact ⟨rfl, rfl⟩
    case round =>
      obtain ⟨rfl, rfl⟩ := hrel
      go_wp2_with fail
      go_ret
      exact ⟨rfl, rfl⟩
def cmpLn (x y : Ln) : Int := orI (cmpI x.b y.b) (cmpI x.r y.r)
theorem ltLn (x y : Ln) : ltOf cmpLn x y = decide (x.b < y.b ∨ (x.b = y.b ∧ x.r < y.r)) := by
  unfold ltOf cmpLn orI cmpI
  by_cases h1 : x.b < y.b
  · simp [h1]
  · by_cases h2 : y.b < x.b
    · have : ¬ x.b = y.b := by omega
      simp [h1, h2, this]
    · have h3 : x.b = y.b := by omega
      by_cases h4 : x.r < y.r
      · simp [h1, h3, h4]
      · by_cases h5 : y.r < x.r <;> simp [h3, h4, h5]
theorem swoLn : SWO (ltOf cmpLn) where
  irrefl x := by rw [ltLn]; simp
  trans x y z h1 h2 := by rw [ltLn] at *; simp at *; omega
  ntrans x y z h1 h2 := by rw [ltLn] at *; simp at *; omega
theorem partLn : ∀ x y : Ln, (ltOf cmpLn) x y = false → (ltOf cmpLn) y x = false → x = y := by
  intro x y h1 h2
  rw [ltLn] at h1 h2
  simp only [decide_eq_false_iff_not] at h1 h2
  cases x
  cases y
  simp only at h1 h2
  congr 1 <;> omega
/-- What a world is behind draws and new blocks. -/
def Grows (w W : World) : Prop := ∃ q os, W = grow (w.drewN q) os
theorem Grows.refl (w : World) : Grows w w := ⟨0, #[], by rw [grow_empty]; rfl⟩
theorem Grows.alloc {w W : World} (h : Grows w W) (o : Obj) : Grows w (W.alloc o) := by
  obtain ⟨q, os, rfl⟩ := h
  exact ⟨q, _, by rw [alloc_eq_grow, grow_grow]⟩
theorem Grows.drew {w W : World} (h : Grows w W) : Grows w W.drew := by
  obtain ⟨q, os, rfl⟩ := h
  exact ⟨q + 1, os, rfl⟩
theorem Grows.drewN {w W : World} (h : Grows w W) : ∀ m, Grows w (W.drewN m)
  | 0 => h
  | m + 1 => (h.drewN m).drew
theorem enc_lower1 : ∀ args w, (callFunc 49 args).run Try.prog w = .ok (.enter 49 args) w := enters_of Try.func49 (by kernel_rfl) rfl
set_option maxHeartbeats 1000000 in
theorem lower1_any (x y : Ln) (w : World) :
    Calls Try.prog 49 #[.agg #[.int .i64 x.b, .int .i64 x.r], .agg #[.int .i64 y.b, .int .i64 y.r]] w fun e w' => e = .returned (.int .i64 (cmpLn x y)) ∧ Grows w w' := by
  unfold cmpLn
  go_enter Try.func49, Try.ntmps49
  go_upto_region 1 with fail
  have HX : Hid (∀ X, Below (w.heap.size + 2) ((w.alloc (.cells #[.int .i64 x.b, .int .i64 x.r] 39)).alloc (.cells #[.int .i64 y.b, .int .i64 y.r] 39)) X → (fun w' => (w'.cell? ⟨w.heap.size, 0, none⟩ = some (.int .i64 x.b) ∧ w'.cell? ⟨w.heap.size, 1, none⟩ = some (.int .i64 x.r)) ∧ w'.cell? ⟨w.heap.size + 1, 0, none⟩ = some (.int .i64 y.b) ∧ w'.cell? ⟨w.heap.size + 1, 1, none⟩ = some (.int .i64 y.r)) X) :=
    Lib.hid fun X hX => ⟨⟨(hX.cell (p := ⟨w.heap.size, 0, none⟩) (by simp)).trans (by go_simp), (hX.cell (p := ⟨w.heap.size, 1, none⟩) (by simp)).trans (by go_simp)⟩, (hX.cell (p := ⟨w.heap.size + 1, 0, none⟩) (by simp)).trans (by go_simp), (hX.cell (p := ⟨w.heap.size + 1, 1, none⟩) (by simp)).trans (by go_simp)⟩
  go_region_held3 (fun w' => (w'.cell? ⟨w.heap.size, 0, none⟩ = some (.int .i64 x.b) ∧ w'.cell? ⟨w.heap.size, 1, none⟩ = some (.int .i64 x.r)) ∧ w'.cell? ⟨w.heap.size + 1, 0, none⟩ = some (.int .i64 y.b) ∧ w'.cell? ⟨w.heap.size + 1, 1, none⟩ = some (.int .i64 y.r))
      (exact HX.out _ (by repeat (first | exact Below.refl _ _ | refine bl_drew ?_ | refine bl_drewN ?_ _ | refine Below.alloc ?_ (by simp) _)))
      (first
        | (go_at_call 51; refine (cmp_any _ _ _).mono ?_; rintro e w' ⟨rfl, rfl⟩)
        | (go_at_call 50; refine (or_any (cmpI x.b y.b) (cmpI x.r y.r) _ _ (by go_simp) (by go_simp)).mono ?_; rintro e w' ⟨rfl, rfl⟩))
  all_goals
    go_wp2_with fail
    go_ret
    exact ⟨rfl, by repeat (first | exact Grows.refl _ | refine Grows.drew ?_ | refine Grows.drewN ?_ _ | refine Grows.alloc ?_ _)⟩

theorem info_ln : (Try.prog.info? 39).map (fun i => (i.zero, i.size, i.bytes)) = some (some (.agg #[.int .i64 0, .int .i64 0]), 2, 16) := by kernel_rfl
/-- A block that holds one. -/
def BoxK_ln (W : World) (B : Nat) (x : Ln) : Prop := W.heap[B]? = some (.cells (Ln.cells x).toArray 39 (0, 0))
set_option maxRecDepth 100000 in
set_option maxHeartbeats 2000000 in
/-- slices.AppendSeq onto a nil slice: what an iterator gives, in a slice of the call's own. -/
theorem appendSeq_ln (F : Fence) (n : Nat) (h74 : F.fn 56) (hro : F.round = none) (hn : 3 ≤ n) (gf : Nat) (lb : Array Value) (hFg : F.fn gf) (eg : ∀ args w, (callFunc gf args).run Try.prog w = .ok (.enter gf args) w)
    (S Sp : List Ln → Prop) (N : Nat) (w : World) (hN : N * 16 ≤ 140737488355328)
    (hseq : SeqStopsK F (n - 1) Try.prog gf lb (fun x : Ln => #[.agg (Ln.cells x).toArray]) (Below w.heap.size) S Sp N w) :
    CallsIn F n Try.prog 56 #[.slice none 0 0, .func (.func gf) #[] lb] w fun e W' => ∃ v xs, e = .returned v ∧ S xs ∧ W'.ownsRow w.heap.size 39 2 v xs.length (xs.flatMap Ln.cells) ∧ Below w.heap.size w W' := by
  have h1 : 1 ≤ n := by omega
  obtain ⟨i0, hi, hz0, hz1, hz2⟩ := info_parts info_ln
  refine callsIn_of_wp_marks Try.func56 rfl h74 ?_ hro
  simp only [Try.ntmps56, List.size_toArray, List.length_cons, List.length_nil, Nat.reduceAdd, Nat.reduceSub, Array.replicate_succ, Array.replicate_zero, List.push_toArray, List.append_toArray, List.nil_append, List.cons_append]
  gi_wp2
  have bO := Boxed.new w 22 (.slice none 0 0)
  have hB0 : Below w.heap.size w (w.alloc (.cells #[.slice none 0 0] 22)) := (Below.refl _ w).alloc (Nat.le_refl _) _
  refine wpIn_rangeFunc_ownH hro h1 (gf := gf) (lb := lb) rfl hFg eg hseq belowK_t (belowK_b (by simp)) hB0 (fun _ => rfl)
    (fun (pre : List Ln) W => (∃ v, Boxed W w.heap.size 22 v ∧ W.ownsRow w.heap.size 39 2 v pre.length (pre.flatMap Ln.cells) ∧ True) ∧ Below w.heap.size w W)
    (fun _ _ _ => False)
    (OwnFrom.and (Own.from (holdsRow_own w.heap.size w.heap.size 22 39 2 (fun pre : List Ln => pre.length) (fun pre => pre.flatMap Ln.cells) (fun _ _ => True)) _) (ownFrom_below (Nat.le_refl _) (by simp)))
    (fun _ _ _ _ _ hs _ _ => hs)
    ⟨⟨_, bO, World.ownsRow_nil _ _ _ _, trivial⟩, hB0⟩
    (fun x a' W => ∃ Bx, w.heap.size < Bx ∧ BoxK_ln W Bx x ∧ a' = { tmps := #[.slice none 0 0, .func (.func gf) #[] lb, .pointer (some ⟨w.heap.size, 0, none⟩), undef, .slice none 0 0, .pointer (some ⟨Bx, 0, none⟩), .func (.func gf) #[] lb, .agg (Ln.cells x).toArray, undef, undef, undef, undef, undef], defers := [] })
    (fun x a' s X Y row ⟨Bx, hlt, hb, ha⟩ hg hr => ⟨Bx, hlt, (hg.block Bx (Array.getElem?_eq_some_iff.1 hb).1 (fun e => by obtain ⟨-, o, ho, hc⟩ := hr Bx e.symm; rw [show X.heap[Bx]? = _ from hb] at ho; cases ho; cases hc)).trans hb, ha⟩) ?assign ?body ?done ?stop
  case assign =>
    rintro l pre x W K ⟨⟨v, hv, hrow, -⟩, hB⟩ hK
    have hbl := hv.lt
    simp only [Ln.cells] at hK ⊢
    gi_wp2
    refine hK _ _ ((KeepsOthers.alloc _ _).from _) ((Below.refl _ _).alloc hB.size _) ⟨⟨v, hv.alloc _, hrow.alloc _, trivial⟩, hB.alloc hB.size _⟩ ⟨W.heap.size, hbl, World.alloc_heap_new W _, rfl⟩
  case body =>
    rintro l pre x a' W hl ⟨r, hr⟩ ⟨⟨v, hv, hrow, -⟩, hB⟩ ⟨Bx, hBx, hbx, rfl⟩ hlt
    have hc := hv.cell
    have hcx : ∀ i u, (Ln.cells x)[i]? = some u → W.cell? ⟨Bx, i, none⟩ = some u := fun i u hu => by
      unfold BoxK_ln at hbx
      simp [World.cell?, hbx, hu]
    have x0 := hcx 0 _ rfl; have x1 := hcx 1 _ rfl
    have HCX := Lib.hid hcx
    clear hcx
    gi_wp2_with (gi_at_builtin; refine wpListIn_append_own _ rfl _ _ 22 rfl w.heap.size 39 i0 (.agg #[.int .i64 0, .int .i64 0]) 2 16 Try.underlying22 hi hz0 hz1 hz2 rfl (by decide) _ _ _ rfl (hrow.alloc _) ⟨W.heap.size, 0, none⟩ 1 1 (Ln.cells x) rfl rfl ?qc2 ?qc3 ?qc4 ?qc5 ?qc6 ?_)
    case qc2 => exact fun j' u hj' => by rw [Addr.add_lit]; exact RowAt.flat (enc := Ln.cells) (k := 2) (fun _ => rfl) (rowAt_new (enc := Ln.cells) (k := 2) (fun _ => rfl) W 39 [x] (b := W.heap.size) rfl (by simp [Ln.cells])) j' u (by simpa using hj')
    case qc3 => exact fun u hu => by simp [Ln.cells] at hu; rcases hu with rfl | rfl <;> rfl
    case qc4 => unfold maxLen; omega
    case qc5 => omega
    case qc6 => have := hB.size; simp; omega
    intro v' w1 hown' hgrow _
    obtain ⟨g', cap', rfl⟩ := ownsRow_succ hown'
    obtain ⟨hv1, hv2, hr2, hk2, hb2⟩ := hv.appended (by decide) hrow hB.size (Nat.le_refl _) hown' hgrow
    have hc1 := hv1.cell
    have hf1 := hv1.frozen
    gi_wp2
    exact ⟨hk2.from _, hb2, ⟨_, hv2, by rw [List.flatMap_append]; simpa using hr2, trivial⟩, hB.trans hb2⟩
  case done =>
    rintro D ys W hD hS ⟨⟨v, hv, hrow, -⟩, hB⟩ hK
    have hc := hv.cell
    gi_wp2
    refine ⟨by simp, .inl ⟨_, _, rfl, run_takeDeferred hK, ?_⟩⟩
    exact ⟨_, results_tmp rfl _ _ _, v, ys, rfl, hS, ownsRow_putObj hrow _ hK rfl, hB.trans (belowK_b (w := w) (Nat.le_refl _) W D _ _ (by simp at hD; omega) hK rfl rfl)⟩
  case stop =>
    rintro D c pre W _ _ h _
    exact h.elim
set_option maxRecDepth 100000 in
set_option maxHeartbeats 400000 in
/-- slices.Collect. -/
theorem collect_ln (F : Fence) (n : Nat) (h67 : F.fn 42) (h74 : F.fn 56) (hro : F.round = none) (hn : 4 ≤ n) (gf : Nat) (lb : Array Value) (hFg : F.fn gf) (eg : ∀ args w, (callFunc gf args).run Try.prog w = .ok (.enter gf args) w)
    (S Sp : List Ln → Prop) (N : Nat) (w : World) (hN : N * 16 ≤ 140737488355328)
    (hseq : SeqStopsK F (n - 1 - 1) Try.prog gf lb (fun x : Ln => #[.agg (Ln.cells x).toArray]) (Below w.heap.size) S Sp N w) :
    CallsIn F n Try.prog 42 #[.func (.func gf) #[] lb] w fun e W' => ∃ v xs, e = .returned v ∧ S xs ∧ W'.ownsRow w.heap.size 39 2 v xs.length (xs.flatMap Ln.cells) ∧ Below w.heap.size w W' := by
  have h1 : 1 ≤ n := by omega
  have hcon := appendSeq_ln F (n - 1) h74 hro (by omega) gf lb hFg eg S Sp N w hN hseq
  refine callsIn_of_wp Try.func42 rfl h67 ?_ hro
  simp only [Try.ntmps42, List.size_toArray, List.length_cons, List.length_nil, Nat.reduceAdd, Nat.reduceSub, Array.replicate_succ, Array.replicate_zero, List.push_toArray, List.append_toArray, List.nil_append, List.cons_append]
  gi_wp2_with (gi_at_call 56; refine hcon.mono ?_; rintro e w' ⟨v, xs, rfl, hS, hr, hb⟩)
  go_ret
  exact ⟨v, xs, rfl, hS, hr, hb⟩


set_option maxRecDepth 100000 in
set_option maxHeartbeats 400000 in
/-- slices.SortFunc on a slice of the call's own. -/
theorem sortFunc_ln (cf : Ln → Ln → Int) (hO : SWO (ltOf cf)) (g : Nat) (cb : Array Value) (eg : ∀ args w, (callFunc g args).run Try.prog w = .ok (.enter g args) w) (base : Nat) (v : Value) (xs : List Ln) (w : World)
    (hrow : w.ownsRow base 39 2 v xs.length (xs.flatMap Ln.cells)) (hb0 : base ≤ w.heap.size) (hlen : xs.length ≤ 1000000000)
    (hcmp : ∀ W, Below base w W → ∀ x y, Calls Try.prog g (#[.agg (Ln.cells x).toArray, .agg (Ln.cells y).toArray] ++ cb) W fun e w' => e = .returned (.int .i64 (cf x y)) ∧ ∃ q os', w' = grow (W.drewN q) os') :
    Calls Try.prog 71 #[v, .func (.func g) #[] cb] w fun e w' => e = .returned (.tuple #[]) ∧ (∃ ys, ys.Perm xs ∧ SortedBy cf ys ∧ w'.ownsRow base 39 2 v ys.length (ys.flatMap Ln.cells)) ∧ Below base w w' := by
  have hk : ∀ x : Ln, (Ln.cells x).length = 2 := fun _ => rfl
  have h1 : ∀ x : Ln, ∀ v ∈ Ln.cells x, v.oneCell' = true := fun x v hv => by simp [Ln.cells] at hv; rcases hv with rfl | rfl <;> rfl
  have hrow0 := hrow
  rcases hrow.2 with ⟨rfl, hn⟩ | ⟨g', cap, cur, rfl, hbase, hb, h2, h3, h4, h5⟩
  · obtain rfl : xs = [] := List.eq_nil_of_length_eq_zero hn
    have hc := AnyF.slices_SortFunc_none (P := Try.prog) { Try.sortLn with } none 0 (.func (.func g) #[] cb) w
    change Calls Try.prog 71 _ _ _ at hc
    refine hc.mono ?_
    rintro e w' ⟨rfl, rfl⟩
    exact ⟨rfl, ⟨[], List.Perm.refl _, List.Pairwise.nil, hrow0⟩, Below.refl _ _⟩
  · have hg : g' < w.heap.size := (Array.getElem?_eq_some_iff.1 hb).1
    have hgb : ∀ (m : Nat) (os : Array Obj) (d : Array Ln), Below base w (sortWorldK Ln.cells 2 w g' 0 m d os) := fun m os d =>
      (Below.refl base w).grown (grownBy_sortedK d) hb0 (fun k e => by cases e; exact hbase)
    have hc := AnyQ.slices_SortFunc (P := Try.prog) Try.sortLn 2 Try.isAgg39 Try.sizeOf39 Ln.cells hk h1 cf hO g cb g' 0 cap xs.toArray w eg (fun m os dk _ x y => hcmp _ (hgb m os dk) x y) (holdsK_of hk hb h5) hg (by simp; omega)
    change Calls Try.prog 71 _ _ _ at hc
    simp only [List.size_toArray] at hc
    refine hc.mono ?_
    rintro e w' ⟨rfl, d', n, os, hp, hs, rfl⟩
    have hp' : PermIn 0 xs.toArray.size xs.toArray d' := by simpa using hp
    have hpm := perm_of hp'
    have hsz : d'.size = xs.length := by have := hp'.1; simpa using this
    have hs' : SortedIn (ltOf cf) 0 d'.size d' := by rw [hsz]; exact hs
    have hl : d'.toList.length = xs.length := by simpa using hsz
    refine ⟨rfl, ⟨d'.toList, by simpa using hpm, sortedBy_of hs', ?_⟩, hgb n os d'⟩
    have := ownsRow_sortedK (w := w) (n := n) (os := os) (ys := d'.toList) hk hbase hb (by omega) h3 h4
    rw [show d'.toList.toArray = d' from by simp] at this
    rw [← hl]
    exact this
set_option maxRecDepth 100000 in
set_option maxHeartbeats 400000 in
/-- slices.SortedFunc. -/
theorem sortedFunc_ln (cf : Ln → Ln → Int) (hO : SWO (ltOf cf)) (g : Nat) (cb : Array Value) (egc : ∀ args w, (callFunc g args).run Try.prog w = .ok (.enter g args) w) (gf : Nat) (lb : Array Value) (egs : ∀ args w, (callFunc gf args).run Try.prog w = .ok (.enter gf args) w)
    (S Sp : List Ln → Prop) (N : Nat) (w : World) (hN : N ≤ 1000000000) (hS : ∀ xs, S xs → xs.length ≤ 1000000000)
    (hseq : SeqStopsK Fence.wide 8 Try.prog gf lb (fun x : Ln => #[.agg (Ln.cells x).toArray]) (Below w.heap.size) S Sp N w)
    (hcmp : ∀ W, Below w.heap.size w W → ∀ x y, Calls Try.prog g (#[.agg (Ln.cells x).toArray, .agg (Ln.cells y).toArray] ++ cb) W fun e w' => e = .returned (.int .i64 (cf x y)) ∧ ∃ q os', w' = grow (W.drewN q) os') :
    Calls Try.prog 61 #[.func (.func gf) #[] lb, .func (.func g) #[] cb] w fun e w' => (∃ v xs ys, e = .returned v ∧ S xs ∧ ys.Perm xs ∧ SortedBy cf ys ∧ w'.ownsRow w.heap.size 39 2 v ys.length (ys.flatMap Ln.cells)) ∧ Below w.heap.size w w' := by
  have hcol := callsIn_wide.1 (collect_ln Fence.wide 10 trivial trivial rfl (by omega) gf lb trivial egs S Sp N w (by omega) hseq)
  have HC := Lib.hid hcmp
  have HO := Lib.hid hO
  clear hcmp hO hseq
  go_enter Try.func61, Try.ntmps61
  go_wp2_with fail
  refine hcol.mono ?_
  rintro e w1 ⟨v, xs, rfl, hSx, hr1, hb1⟩
  have hsf := sortFunc_ln cf HO.out g cb egc w.heap.size v xs w1 hr1 hb1.size (hS xs hSx) (fun W hW x y => HC.out W (hb1.trans hW) x y)
  have HB1 := Lib.hid hb1
  have HSX := Lib.hid hSx
  clear hcol hr1 hb1 hSx
  go_wp2_with fail
  refine hsf.mono ?_
  rintro e w2 ⟨rfl, ⟨ys, hp, hs, hr2⟩, hb2⟩
  have HP := Lib.hid hp
  have HSS := Lib.hid hs
  have HR2 := Lib.hid hr2
  have HB2 := Lib.hid hb2
  clear hsf hp hs hr2 hb2
  go_wp2_with fail
  go_ret
  exact ⟨⟨v, xs, ys, rfl, HSX.out, HP.out, HSS.out, HR2.out⟩, HB1.out.trans HB2.out⟩

end Go.Proofs.Ytmkjiflliejjjaa
