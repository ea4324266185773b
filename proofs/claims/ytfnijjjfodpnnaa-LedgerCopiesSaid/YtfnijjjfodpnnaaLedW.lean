/- Ledger: maps.Values, slices.Collect over it. -/
import Derived.Test.YtfnijjjfodpnnaaLedR
import Derived.Test.YtfnijjjfodpnnaaSeq
namespace Go.Proofs.Ytfnijjjfodpnnaa
open Go.RowKit Go.Shelf
set_option linter.unusedVariables false
set_option linter.unusedSimpArgs false
attribute [local go_sem] Oper.semAt_some

set_option maxRecDepth 100000 in
set_option maxHeartbeats 1000000 in
theorem values1_in (F : Fence) (n : Nat) (h8 : F.fn 69) (hro : F.round = none) (hn : 1 ≤ n) (l Bm b : Nat) (es : List En) (J Jx : List En → World → Prop)
    (hY : ∀ pre (x : En) W, J pre W → pre.length < es.length → YieldAt F (n - 1) Try.prog l #[.agg #[.int .i64 x.i, .int .i64 x.r, .int .i64 x.m]] W fun e W' =>
      (e = .returned (.bool true) ∧ J (pre ++ [x]) W' ∧ KeepsWalks W W') ∨ (e = .returned (.bool false) ∧ Jx (pre ++ [x]) W'))
    (W : World) (hJ : AbidesFrom W.heap.size J) (hm : W.cell? ⟨Bm, 0, none⟩ = some (.map (some b))) (hown : MapOf enc1 W b (enL es)) (h0 : J [] W) :
    CallsIn F n Try.prog 69 #[.func (.yield l) #[] #[], .pointer (some ⟨Bm, 0, none⟩)] W fun e W' => (∃ v, e = .returned v) ∧
      ((∃ ps : List En, ps.Perm es ∧ J ps W') ∨ (∃ pre : List En, (∃ rest, (pre ++ rest).Perm es) ∧ Jx pre W')) := by
  obtain ⟨o, hrange, hR⟩ := run_range (P := Try.prog) Try.underlying62 hown
  have HR := Lib.hid hR
  have hj0 := hJ [] W (W.alloc o) none h0 (World.grownBy_alloc W o none) (fun r e => by cases e)
  have HJ0 := Lib.hid hj0
  clear hR hj0 hown
  refine callsIn_of_wp Try.func69 rfl h8 ?_ hro
  simp only [Try.ntmps69, List.size_toArray, List.length_cons, List.length_nil, Nat.reduceAdd, Nat.reduceSub, Array.replicate_succ, Array.replicate_zero, List.push_toArray, List.append_toArray, List.nil_append, List.cons_append]
  gi_wp2
  gi_loopw [4] (fun _ wr => ∃ (dn lf : List En), Aside ((dn ++ lf).Perm es) ∧ Aside (RangeAt enc1 wr b W.heap.size (enL es) (enL lf)) ∧ J dn wr) (fun _ wr => leftN wr b W.heap.size)
  case atStart => exact ⟨[], es, List.Perm.refl _, HR.out, HJ0.out⟩
  case round =>
    obtain ⟨dn, lf, HP, HRG, hJs⟩ := hrel
    rcases run_next (P := Try.prog) HRG.out with ⟨hl, hrun⟩ | ⟨k, v', i, w2, hi, hrun, hR2, hent, hg2, hsz2⟩
    · have hlf : lf = [] := by cases lf with | nil => rfl | cons a b => simp [enL] at hl
      subst hlf
      have hp := HP.out
      rw [List.append_nil] at hp
      have HPP := Lib.hid hp
      clear hp hl
      gi_wp2
      go_end0
      exact ⟨⟨_, rfl⟩, .inl ⟨dn, HPP.out, hJs⟩⟩
    · have hx : ∃ x, lf[i]? = some x ∧ k = x.i ∧ v' = x.val := by
        simp only [enL, List.getElem?_map] at hi
        obtain ⟨x, hx, he⟩ := Option.map_eq_some_iff.1 hi
        simp at he
        exact ⟨x, hx, he.1.symm, he.2.symm⟩
      obtain ⟨x, hx, rfl, rfl⟩ := hx
      unfold enc1 at hrun hent
      have hil : i < lf.length := (List.getElem?_eq_some_iff.1 hx).1
      have hperm := perm_eraseIdx lf i x hx
      have hp2 : ((dn ++ [x]) ++ lf.eraseIdx i).Perm es := by
        refine List.Perm.trans ?_ HP.out
        rw [List.append_assoc]
        exact (hperm.symm).append_left dn
      have hR3 : RangeAt enc1 w2 b W.heap.size (enL es) (enL (lf.eraseIdx i)) := by
        have e : enL (lf.eraseIdx i) = (enL lf).eraseIdx i := by unfold enL; exact ChangeMaps.map_eraseIdx _ _ _
        rw [e]
        exact hR2
      have hlen := hp2.length_eq
      simp only [List.length_append, List.length_cons, List.length_nil] at hlen
      have hmeas : leftN wr b W.heap.size = lf.length := by rw [HRG.out.leftN_eq]; simp [enL]
      have hJ2 : J dn w2 := hJ dn wr w2 (some W.heap.size) hJs hg2 (fun r e => by cases e; exact ⟨Nat.le_refl _, HRG.out.walk⟩)
      have hJ3 : J dn (w2.alloc (.cells #[.int .i64 x.i, .int .i64 x.r, .int .i64 x.m] 30)) := hJ dn w2 _ none hJ2 (World.grownBy_alloc w2 _ none) (fun r e => by cases e)
      obtain ⟨fn, tmps, assign, body, hy, hR⟩ := hY dn x _ hJ3 (by omega)
      have HP2 := Lib.hid hp2
      have HR3 := Lib.hid hR3
      have HMS := Lib.hid hmeas
      clear hi hx hperm hp2 hR2 hR3 hlen hmeas HP HRG hg2 hsz2 hJs
      gi_wp2
      refine hR.mono ?_
      rintro e W3 (⟨rfl, hJ4, hk4⟩ | ⟨rfl, hJx4⟩)
      · have hR4 : RangeAt enc1 W3 b W.heap.size (enL es) (enL (lf.eraseIdx i)) := (HR3.out.below (bl_alloc (Below.refl _ _) _)).of_walks hk4
        have HR4 := Lib.hid hR4
        clear hR4
        gi_wp2
        go_roundw
        case rel => exact ⟨dn ++ [x], lf.eraseIdx i, HP2.out, HR4.out, hJ4⟩
        case measure =>
          rw [HR4.out.leftN_eq, HMS.out]
          simp only [enL, List.length_map, List.length_eraseIdx]
          split <;> omega
      · gi_wp2
        refine bodyPost_ret (results_none rfl _ _ _) rfl ?_
        exact ⟨⟨_, rfl⟩, .inr ⟨dn ++ [x], ⟨_, HP2.out⟩, hJx4⟩⟩
theorem values_stops (F : Fence) (n : Nat) (h8 : F.fn 69) (hro : F.round = none) (hn : 1 ≤ n) (Bm b : Nat) (es : List En) (w : World) (hm : w.cell? ⟨Bm, 0, none⟩ = some (.map (some b))) (hown : MapOf enc1 w b (enL es)) :
    SeqStopsK F n Try.prog 69 #[.pointer (some ⟨Bm, 0, none⟩)] (fun x : En => #[Value.agg (En.cells x).toArray]) KeepsWalks (fun ps => ps.Perm es) (fun pre => ∃ rest, (pre ++ rest).Perm es) es.length w := fun l J Jx W hW hJ _ hY h0 =>
  values1_in F n h8 hro hn l Bm b es J Jx hY W hJ (bl_cell hW hm) (hown.below hW) h0

theorem info_en : (Try.prog.info? 30).map (fun i => (i.zero, i.size, i.bytes)) = some (some (.agg #[.int .i64 0, .int .i64 0, .int .i64 0]), 3, 24) := by kernel_rfl
/-- A block that holds one. -/
def BoxK_en (W : World) (B : Nat) (x : En) : Prop := W.heap[B]? = some (.cells (En.cells x).toArray 30 (0, 0))
set_option maxRecDepth 100000 in
set_option maxHeartbeats 2000000 in
/-- slices.AppendSeq onto a nil slice: what an iterator gives, in a slice of the call's own. -/
theorem appendSeq_en (F : Fence) (n : Nat) (h74 : F.fn 74) (hro : F.round = none) (hn : 3 ≤ n) (gf : Nat) (lb : Array Value) (hFg : F.fn gf) (eg : ∀ args w, (callFunc gf args).run Try.prog w = .ok (.enter gf args) w)
    (S Sp : List En → Prop) (N : Nat) (w : World) (hN : N * 24 ≤ 140737488355328)
    (hseq : SeqStopsK F (n - 1) Try.prog gf lb (fun x : En => #[.agg (En.cells x).toArray]) KeepsWalks S Sp N w) :
    CallsIn F n Try.prog 74 #[.slice none 0 0, .func (.func gf) #[] lb] w fun e W' => ∃ v xs, e = .returned v ∧ S xs ∧ W'.ownsRow w.heap.size 30 3 v xs.length (xs.flatMap En.cells) ∧ Below w.heap.size w W' := by
  have h1 : 1 ≤ n := by omega
  obtain ⟨i0, hi, hz0, hz1, hz2⟩ := info_parts info_en
  refine callsIn_of_wp_marks Try.func74 rfl h74 ?_ hro
  simp only [Try.ntmps74, List.size_toArray, List.length_cons, List.length_nil, Nat.reduceAdd, Nat.reduceSub, Array.replicate_succ, Array.replicate_zero, List.push_toArray, List.append_toArray, List.nil_append, List.cons_append]
  gi_wp2
  have bO := Boxed.new w 33 (.slice none 0 0)
  have hB0 : Below w.heap.size w (w.alloc (.cells #[.slice none 0 0] 33)) := (Below.refl _ w).alloc (Nat.le_refl _) _
  refine wpIn_rangeFunc_ownH hro h1 (gf := gf) (lb := lb) rfl hFg eg hseq walksK_t (walksK_b) hB0 (fun _ => rfl)
    (fun (pre : List En) W => (∃ v, Boxed W w.heap.size 33 v ∧ W.ownsRow w.heap.size 30 3 v pre.length (pre.flatMap En.cells) ∧ True) ∧ Below w.heap.size w W)
    (fun _ _ _ => False)
    (OwnFrom.and (Own.from (holdsRow_own w.heap.size w.heap.size 33 30 3 (fun pre : List En => pre.length) (fun pre => pre.flatMap En.cells) (fun _ _ => True)) _) (ownFrom_below (Nat.le_refl _) (by simp)))
    (fun _ _ _ _ _ hs _ _ => hs)
    ⟨⟨_, bO, World.ownsRow_nil _ _ _ _, trivial⟩, hB0⟩
    (fun x a' W => ∃ Bx, w.heap.size < Bx ∧ BoxK_en W Bx x ∧ a' = { tmps := #[.slice none 0 0, .func (.func gf) #[] lb, .pointer (some ⟨w.heap.size, 0, none⟩), undef, .slice none 0 0, .pointer (some ⟨Bx, 0, none⟩), .func (.func gf) #[] lb, .agg (En.cells x).toArray, undef, undef, undef, undef, undef], defers := [] })
    (fun x a' s X Y row ⟨Bx, hlt, hb, ha⟩ hg hr => ⟨Bx, hlt, (hg.block Bx (Array.getElem?_eq_some_iff.1 hb).1 (fun e => by obtain ⟨-, o, ho, hc⟩ := hr Bx e.symm; rw [show X.heap[Bx]? = _ from hb] at ho; cases ho; cases hc)).trans hb, ha⟩) ?assign ?body ?done ?stop
  case assign =>
    rintro l pre x W K ⟨⟨v, hv, hrow, -⟩, hB⟩ hK
    have hbl := hv.lt
    simp only [En.cells] at hK ⊢
    gi_wp2
    refine hK _ _ ((KeepsOthers.alloc _ _).from _) (KeepsWalks.alloc _ _) ⟨⟨v, hv.alloc _, hrow.alloc _, trivial⟩, hB.alloc hB.size _⟩ ⟨W.heap.size, hbl, World.alloc_heap_new W _, rfl⟩
  case body =>
    rintro l pre x a' W hl ⟨r, hr⟩ ⟨⟨v, hv, hrow, -⟩, hB⟩ ⟨Bx, hBx, hbx, rfl⟩ hlt
    have hc := hv.cell
    have hcx : ∀ i u, (En.cells x)[i]? = some u → W.cell? ⟨Bx, i, none⟩ = some u := fun i u hu => by
      unfold BoxK_en at hbx
      simp [World.cell?, hbx, hu]
    have x0 := hcx 0 _ rfl; have x1 := hcx 1 _ rfl; have x2 := hcx 2 _ rfl
    have HCX := Lib.hid hcx
    clear hcx
    gi_wp2_with (gi_at_builtin; refine wpListIn_append_own _ rfl _ _ 33 rfl w.heap.size 30 i0 (.agg #[.int .i64 0, .int .i64 0, .int .i64 0]) 3 24 Try.underlying33 hi hz0 hz1 hz2 rfl (by decide) _ _ _ rfl (hrow.alloc _) ⟨W.heap.size, 0, none⟩ 1 1 (En.cells x) rfl rfl ?qc2 ?qc3 ?qc4 ?qc5 ?qc6 ?_)
    case qc2 => exact fun j' u hj' => by rw [Addr.add_lit]; exact RowAt.flat (enc := En.cells) (k := 3) (fun _ => rfl) (rowAt_new (enc := En.cells) (k := 3) (fun _ => rfl) W 30 [x] (b := W.heap.size) rfl (by simp [En.cells])) j' u (by simpa using hj')
    case qc3 => exact fun u hu => by simp [En.cells] at hu; rcases hu with rfl | rfl | rfl <;> rfl
    case qc4 => unfold maxLen; omega
    case qc5 => omega
    case qc6 => have := hB.size; simp; omega
    intro v' w1 hown' hgrow _
    obtain ⟨g', cap', rfl⟩ := ownsRow_succ hown'
    obtain ⟨hv1, hv2, hr2, hk2, hb2⟩ := hv.appended (by decide) hrow hB.size (Nat.le_refl _) hown' hgrow
    have hc1 := hv1.cell
    have hf1 := hv1.frozen
    gi_wp2
    exact ⟨hk2.from _, hk2.walks, ⟨_, hv2, by rw [List.flatMap_append]; simpa using hr2, trivial⟩, hB.trans hb2⟩
  case done =>
    rintro D ys W hD hS ⟨⟨v, hv, hrow, -⟩, hB⟩ hK
    have hc := hv.cell
    gi_wp2
    refine ⟨by simp, .inl ⟨_, _, rfl, run_takeDeferred hK, ?_⟩⟩
    exact ⟨_, results_tmp rfl _ _ _, v, ys, rfl, hS, ownsRow_putObj hrow _ hK rfl, hB.trans (belowK_b (w := w) (Nat.le_refl _) W D _ _ (by simp at hD; omega) hK rfl rfl)⟩
  case stop =>
    rintro D c pre W _ _ h _
    exact h.elim
set_option maxRecDepth 100000 in
set_option maxHeartbeats 400000 in
/-- slices.Collect. -/
theorem collect_en (F : Fence) (n : Nat) (h67 : F.fn 67) (h74 : F.fn 74) (hro : F.round = none) (hn : 4 ≤ n) (gf : Nat) (lb : Array Value) (hFg : F.fn gf) (eg : ∀ args w, (callFunc gf args).run Try.prog w = .ok (.enter gf args) w)
    (S Sp : List En → Prop) (N : Nat) (w : World) (hN : N * 24 ≤ 140737488355328)
    (hseq : SeqStopsK F (n - 1 - 1) Try.prog gf lb (fun x : En => #[.agg (En.cells x).toArray]) KeepsWalks S Sp N w) :
    CallsIn F n Try.prog 67 #[.func (.func gf) #[] lb] w fun e W' => ∃ v xs, e = .returned v ∧ S xs ∧ W'.ownsRow w.heap.size 30 3 v xs.length (xs.flatMap En.cells) ∧ Below w.heap.size w W' := by
  have h1 : 1 ≤ n := by omega
  have hcon := appendSeq_en F (n - 1) h74 hro (by omega) gf lb hFg eg S Sp N w hN hseq
  refine callsIn_of_wp Try.func67 rfl h67 ?_ hro
  simp only [Try.ntmps67, List.size_toArray, List.length_cons, List.length_nil, Nat.reduceAdd, Nat.reduceSub, Array.replicate_succ, Array.replicate_zero, List.push_toArray, List.append_toArray, List.nil_append, List.cons_append]
  gi_wp2_with (gi_at_call 74; refine hcon.mono ?_; rintro e w' ⟨v, xs, rfl, hS, hr, hb⟩)
  go_ret
  exact ⟨v, xs, rfl, hS, hr, hb⟩

end Go.Proofs.Ytfnijjjfodpnnaa
