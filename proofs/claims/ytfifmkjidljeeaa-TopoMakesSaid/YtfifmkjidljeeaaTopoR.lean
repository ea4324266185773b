/- Topo: Out, a range over a function. -/
import Derived.Test.YtfifmkjidljeeaaTopoS
import Derived.Test.YtfifmkjidljeeaaTopoI
import Derived.Test.YtfifmkjidljeeaaSeq
import Derived.Test.YtfifmkjidljeeaaApp
import Derived.Deep.QuietTactic
import Derived.WalkMore
namespace Go.Proofs.Ytfifmkjidljeeaa
open Go.RowKit Go.Shelf Go.Sort
set_option linter.unusedVariables false
set_option linter.unusedSimpArgs false
attribute [local go_sem] Oper.semAt_some
/-- What a round that goes on keeps: cells from B on. -/
def KeepsCells (B : Nat) (W W' : World) : Prop := ∀ k o, B ≤ k → W.heap[k]? = some o → o.isCells = true → W'.heap[k]? = some o
theorem keepsC_t {B : Nat} {X Y Z : World} (h : KeepsCells B X Y) (k : KeepsCells B Y Z) : KeepsCells B X Z := fun i o hi ho hc => k i o hi (h i o hi ho hc) hc
theorem keepsC_b {B : Nat} {w : World} (W : World) (l : Nat) (o o' : Obj) (_ : w.heap.size ≤ l) (h : W.heap[l]? = some o) (hc : o.isCells = false) (_ : o.isWalk = false) : KeepsCells B W (W.putObj l o') := by
  intro k p hk hp hpc
  have hne : k ≠ l := by
    rintro rfl
    rw [h] at hp
    cases hp
    rw [hc] at hpc
    cases hpc
  rw [World.putObj_heap_other hne]
  exact hp
theorem keepsC_refl (B : Nat) (W : World) : KeepsCells B W W := fun _ _ _ h _ => h
theorem keepsC_set {B : Nat} {X W : World} (h : KeepsCells B X W) {p : Addr} (hp : p.block < B) (u : Value) : KeepsCells B X (W.setCell p u) := fun i o hi ho hc => by
  have h1 := h i o hi ho hc
  unfold World.setCell
  simp only [Array.getElem?_modify]
  rw [if_neg (by omega)]
  exact h1
theorem keepsC_alloc {B : Nat} {X W : World} (h : KeepsCells B X W) (o : Obj) : KeepsCells B X (W.alloc o) := fun i p hi hp hc => (Below.heap_alloc W o i (Array.getElem?_eq_some_iff.1 (h i p hi hp hc)).1).trans (h i p hi hp hc)
theorem below_grown {w W : World} (h : Below w.heap.size w W) : w.grownBy W none := ⟨h.os, h.tape, h.output, h.size, fun k hk _ => h.block k hk⟩

/-- An int's slice type and its element's. -/
theorem elIx : ElT Try.prog 47 3 1 8 (.int .i64 0) := ElT.mk' Try.underlying47 (by kernel_rfl) rfl (by decide)
def cI (x : Nat) : List Value := [.int .i64 (x : Nat)]
theorem cI_one : ∀ x, ∀ u ∈ cI x, u.oneCell' = true := fun x u hu => by simp [cI] at hu; rcases hu with rfl; rfl
theorem cI_flat (ys : List Nat) : ys.flatMap cI = ys.map fun x => Value.int .i64 (x : Nat) := by
  induction ys with
  | nil => rfl
  | cons y ys ih => rw [List.flatMap_cons, ih]; rfl
theorem sat_oneI (w : World) (x : Nat) {b : Nat} (hb : b = w.heap.size) : SAt cI 1 (w.alloc (.cells #[.int .i64 (x : Nat)] 3)) (.slice (some ⟨b, 0, none⟩) 1 1) [x] := by
  subst hb
  exact Or.inr ⟨_, 0, 1, rfl, Nat.le_refl _, by simp [maxLen], rowAt_new (enc := cI) (k := 1) (fun _ => rfl) w 3 [x] rfl rfl⟩
/-- The first k numbers, of a node's links. -/
def frmTo (ls : List Lk) (node : Int) (k : Nat) : List Nat := (List.range k).filter fun i => (ls.getD i Lk0).a == node
theorem frmTo_yes {ls : List Lk} {node : Int} {k : Nat} {l : Lk} (h : ls[k]? = some l) (he : l.a = node) : frmTo ls node (k + 1) = frmTo ls node k ++ [k] := by
  unfold frmTo
  rw [List.range_succ, List.filter_append]
  simp [List.getD, h, he]
theorem frmTo_no {ls : List Lk} {node : Int} {k : Nat} {l : Lk} (h : ls[k]? = some l) (he : l.a ≠ node) : frmTo ls node (k + 1) = frmTo ls node k := by
  unfold frmTo
  rw [List.range_succ, List.filter_append]
  simp [List.getD, h, he]
theorem frmTo_len (ls : List Lk) (node : Int) (k : Nat) : (frmTo ls node k).length ≤ k := by
  unfold frmTo
  exact Nat.le_trans (List.length_filter_le _ _) (by simp)
theorem own_form {w : World} {base : Nat} {e : TypeId} {k n : Nat} {v : Value} {cs : List Value} (h : w.ownsRow base e k v n cs) : ∃ A c, v = .slice A n c := by
  rcases h.2 with ⟨rfl, rfl⟩ | ⟨g, cap, cur, rfl, _⟩
  · exact ⟨_, _, rfl⟩
  · exact ⟨_, _, rfl⟩
theorem lt_frm {ls : List Lk} {node : Int} {x : Nat} (h : x ∈ frm ls node) : x < ls.length := by
  obtain ⟨l, hl, -⟩ := mem_frm.1 h
  exact (List.getElem?_eq_some_iff.1 hl).1
/-- Sorting numbers of links, of any. -/
theorem sort_frm (q bm : Nat) (nodes : Nat) (ls : List Lk) (node : Int) (base : Nat) (v : Value) (w : World) (ha : Apart ls) (hb : ∀ l ∈ ls, 0 ≤ l.b ∧ l.b < nodes) (hlen : ls.length ≤ 1000000000) (h : ∀ W, Below base w W → TMap W q nodes ls ∧ W.cell? ⟨bm, 0, none⟩ = some (.pointer (some ⟨q, 0, none⟩)))
    (hrow : w.ownsRow base 3 1 v (frm ls node).length ((frm ls node).flatMap cI)) (hb0 : base ≤ w.heap.size) :
    Calls Try.prog 37 #[v, .func (.func 38) #[] #[.pointer (some ⟨bm, 0, none⟩)]] w fun e w' => e = .returned (.tuple #[]) ∧ w'.ownsRow base 3 1 v (outL nodes ls node).length ((outL nodes ls node).flatMap cI) ∧ Below base w w' := by
  have hmem : ∀ x ∈ frm ls node, x < ls.length := fun x hx => lt_frm hx
  obtain ⟨A, c, rfl⟩ := own_form hrow
  by_cases h0 : frm ls node = []
  · have e2 : outL nodes ls node = [] := (sorted_eq (ys := []) ha hb (by rw [h0]) List.Pairwise.nil).symm
    rw [e2]
    rw [h0] at hrow ⊢
    have hc := AnyF.slices_SortFunc_none (P := Try.prog) { Try.sortIx with } A c (.func (.func 38) #[] #[.pointer (some ⟨bm, 0, none⟩)]) w
    change Calls Try.prog 37 _ _ _ at hc
    refine hc.mono ?_
    rintro e w' ⟨rfl, rfl⟩
    exact ⟨rfl, hrow, Below.refl _ _⟩
  · obtain ⟨n, hn⟩ : ∃ n, ls.length = n + 1 := by
      cases hl : ls.length with
      | zero =>
        exfalso
        apply h0
        have : ls = [] := List.eq_nil_of_length_eq_zero hl
        subst this
        rfl
      | succ n => exact ⟨n, rfl⟩
    obtain ⟨xs, hxs⟩ : ∃ xs : List (Fin (n + 1)), xs.map (fun x => x.1) = frm ls node := by
      refine ⟨(frm ls node).attach.map fun x => ⟨x.1, by have := hmem x.1 x.2; omega⟩, ?_⟩
      rw [List.map_map]
      exact List.attach_map_subtype_val (frm ls node)
    have hrow2 : w.ownsRow base 3 1 (.slice A (frm ls node).length c) xs.length (xs.map ixV) := by
      have h1 : (frm ls node).flatMap cI = xs.map ixV := by rw [cI_flat, ← hxs, List.map_map]; rfl
      have h2 : xs.length = (frm ls node).length := by rw [← hxs, List.length_map]
      rw [h2, ← h1]
      exact hrow
    have hfl : (frm ls node).length ≤ ls.length := frmTo_len ls node ls.length
    have hxl : xs.length = (frm ls node).length := by rw [← hxs, List.length_map]
    have hc := sort_ix n (cmpTo ls) (swoTo ls n) 38 #[.pointer (some ⟨bm, 0, none⟩)] enc_out2 base _ xs w hrow2 hb0 (by omega)
      (fun W hW x y => out2_any q bm nodes ls x.1 y.1 W (by omega) (by omega) (h W hW).1 (h W hW).2)
    refine hc.mono ?_
    rintro e w' ⟨rfl, ⟨ys, hp, hs, hr⟩, hbw⟩
    have hys : ys.map (fun x => x.1) = outL nodes ls node := by
      refine sorted_eq ha hb (by rw [← hxs]; exact hp.map _) ?_
      rw [List.pairwise_map]
      refine hs.imp ?_
      intro x y hxy
      unfold cmpTo at hxy
      rwa [cmpI_lt] at hxy
    refine ⟨rfl, ?_, hbw⟩
    rw [← hys, List.length_map, cI_flat, List.map_map]
    exact hr
/-- The block of a row of numbers. -/
theorem own_block {w : World} {base : Nat} {v : Value} {ys : List Nat} (h : w.ownsRow base 3 1 v ys.length (ys.flatMap cI)) : ∃ (g : Nat) (ob : Obj) (A : Option Addr) (c : Nat), v = .slice A ys.length c ∧ ob.isCells = true ∧ base ≤ g ∧ (ys ≠ [] → w.heap[g]? = some ob ∧ A = some ⟨g, 0, none⟩) ∧
    ∀ X : World, X.heap[g]? = some ob → ∀ (j y : Nat), ys[j]? = some y → X.cell? ⟨g, j, none⟩ = some (.int .i64 (y : Nat)) := by
  rcases h.2 with ⟨rfl, hn⟩ | ⟨g, cap, cur, rfl, hbase, hb, h2, h3, h4, h5⟩
  · have : ys = [] := List.eq_nil_of_length_eq_zero hn
    subst this
    exact ⟨base, .cells #[] 3 (0, 0), none, 0, rfl, rfl, Nat.le_refl _, fun h => absurd rfl h, fun _ _ j y hj => by simp at hj⟩
  · refine ⟨g, _, _, _, rfl, rfl, hbase, fun _ => ⟨hb, rfl⟩, fun X hX j y hj => ?_⟩
    have hj' : j < ys.length := (List.getElem?_eq_some_iff.1 hj).1
    rw [Nat.mul_one, cI_flat] at h5
    have h1 : (cur.toList.take ys.length)[j]? = (ys.map fun x => Value.int .i64 (x : Nat))[j]? := by rw [h5]
    rw [List.getElem?_take_of_lt hj', Array.getElem?_toList, List.getElem?_map, hj] at h1
    simp only [World.cell?, hX, Option.isSome_none, Bool.false_eq_true, if_false]
    exact h1
theorem take_snoc' {ys : List Nat} {k y : Nat} (h : ys[k]? = some y) : ys.take k ++ [y] = ys.take (k + 1) := by
  obtain ⟨hk, rfl⟩ := List.getElem?_eq_some_iff.1 h
  rw [List.take_succ_eq_append_getElem hk]
set_option maxRecDepth 100000 in
set_option maxHeartbeats 1000000 in
/-- Out's iterator: a node's links in their order, or the first of them. -/
theorem out1_any (n : Nat) (hn : 1 ≤ n) (l q bm bn B nodes : Nat) (ls : List Lk) (node : Int) (J Jx : List Nat → World → Prop) (W : World) (hB : B ≤ W.heap.size) (hJ : AbidesFrom W.heap.size J)
    (hY : ∀ pre x W1, J pre W1 → pre.length < (outL nodes ls node).length → YieldAt Fence.wide (n - 1) Try.prog l #[.int .i64 (x : Nat)] W1 fun e W' =>
      (e = .returned (.bool true) ∧ J (pre ++ [x]) W' ∧ KeepsCells B W1 W') ∨ (e = .returned (.bool false) ∧ Jx (pre ++ [x]) W'))
    (hm : TMap W q nodes ls) (hbm : W.cell? ⟨bm, 0, none⟩ = some (.pointer (some ⟨q, 0, none⟩))) (hbn : W.cell? ⟨bn, 0, none⟩ = some (.int .i64 node)) (ha : Apart ls) (hb : ∀ l ∈ ls, 0 ≤ l.b ∧ l.b < nodes) (hlen : ls.length ≤ 1000000) (h0 : J [] W) :
    CallsIn Fence.wide n Try.prog 36 #[.func (.yield l) #[] #[], .pointer (some ⟨bm, 0, none⟩), .pointer (some ⟨bn, 0, none⟩)] W fun e W' => (∃ v, e = .returned v) ∧ ((∃ ys, ys = outL nodes ls node ∧ J ys W') ∨ (∃ pre, pre <+: outL nodes ls node ∧ Jx pre W')) := by
  refine callsIn_wide.2 ?_
  have HW : Hid (∀ X, Below W.heap.size W X → TMap X q nodes ls ∧ X.cell? ⟨bm, 0, none⟩ = some (.pointer (some ⟨q, 0, none⟩)) ∧ X.cell? ⟨bn, 0, none⟩ = some (.int .i64 node)) := Lib.hid fun X hX => ⟨hm.below hX, bl_cell hX hbm, bl_cell hX hbn⟩
  have hlm := len_any q nodes ls W hm
  have HJA := Lib.hid hJ
  have HY := Lib.hid hY
  have HA := Lib.hid ha
  have HBB := Lib.hid hb
  have HBS := Lib.hid hB
  have HJ0 := Lib.hid h0
  have hNN : ls.length < 1000001 := by omega
  clear hJ hY ha hb hB h0 hm hlen
  obtain ⟨R, hR⟩ : ∃ R : Ending → World → Prop, R = fun e W' => (∃ v, e = .returned v) ∧ ((∃ ys, ys = outL nodes ls node ∧ J ys W') ∨ (∃ pre, pre <+: outL nodes ls node ∧ Jx pre W')) := ⟨_, rfl⟩
  rw [← hR]
  have HR := Lib.hid hR
  clear hR
  go_enter Try.func36, Try.ntmps36
  refine wp_scope_straight ?_
  go_wp2_with (go_at_call 14; refine hlm.mono ?_; rintro e w' ⟨rfl, rfl⟩)
  clear hlm
  go_loopg [4, 5, 10] (ls.length + 1) (fun gg s4 s5 s10 wr => ∃ k : Nat, k ≤ ls.length ∧ ls.length - k ≤ gg ∧ s10 = .int .i64 k ∧ Aside (wr.ownsRow W.heap.size 3 1 s4 (frmTo ls node k).length ((frmTo ls node k).flatMap cI)) ∧ Aside (Below W.heap.size W wr))
  case atStart => exact ⟨0, by omega, by omega, rfl, World.ownsRow_nil _ _ _ _, Below.refl _ _⟩
  case round =>
    obtain ⟨k, hk, hgg, rfl, HO, HB⟩ := hrel
    obtain ⟨⟨v, r, m0, m1, m2, m3, m4⟩, hbm', hbn'⟩ := HW.out wr HB.out
    obtain ⟨A, c, rfl⟩ := own_form HO.out
    clear m4
    by_cases hlt : k < ls.length
    · have hltz : (k : Int) < (ls.length : Int) := by omega
      have hgk : ls[k]? = some ls[k] := List.getElem?_eq_getElem hlt
      generalize ls[k] = lk at hgk
      rcases m3 with ⟨-, h2⟩ | ⟨b, o, c', rfl, hc1, hc2, hrow⟩
      · subst h2; simp at hlt
      · obtain ⟨c0, -⟩ := LkAt.ofRow hrow hgk
        have HK := Lib.hid hgk
        have hfl : (frmTo ls node k).length < 1000001 := by have := frmTo_len ls node k; omega
        unfold maxLen at hc2
        clear hrow hgk
        by_cases he : lk.a = node
        · have heb : (lk.a == node) = true := by simp [he]
          have HE := Lib.hid he
          have hsz := HB.out.size
          clear he
          generalize hN : (frmTo ls node k).length = N at *
          have HN := Lib.hid hN
          clear hN
          go_wp2_with fail
          go_quiet (fail)
          have ho2 : (wr.drewN nq).ownsRow W.heap.size 3 1 (.slice A N c) N ((frmTo ls node k).flatMap cI) := HO.out
          have hb2 := bl_drewN HB.out nq
          have hsz2 : W.heap.size ≤ (wr.drewN nq).heap.size := hsz
          generalize wr.drewN nq = wq at ho2 hb2 hsz2 ⊢
          go_wp2_with (at_builtin; go_loud (refine wpList_app rfl (.tmp 23) (.tmp 25) rfl elIx (fun _ => rfl) cI_one (base := W.heap.size) (xs := frmTo ls node k) (ys := [k]) rfl rfl HN.out.symm (ho2.alloc _) (sat_oneI _ k rfl) (by simp; omega) (by have := HN.out; simp [maxLen]; omega) (by have := HN.out; simp; omega) ?_; intro v1 w1 hown1 hg1; have hb3 : Below W.heap.size W w1 := (hb2.alloc hsz2 _).trans (own_below (ho2.alloc _) hg1 (by simp; omega)); rw [← frmTo_yes HK.out HE.out] at hown1; clear ho2 hb2 hg1))
          go_roundg (ls.length - (k + 1))
          case measure => omega
          case rel => exact ⟨k + 1, by omega, by omega, by go_num, hown1, hb3⟩
        · have heb : (lk.a == node) = false := by simp [he]
          have HE := Lib.hid he
          clear he
          generalize hN : (frmTo ls node k).length = N at *
          have HN := Lib.hid hN
          clear hN
          go_wp2_with fail
          go_quiet (fail)
          go_wp2_with fail
          go_roundg (ls.length - (k + 1))
          case measure => omega
          case rel => exact ⟨k + 1, by omega, by omega, by go_num, by rw [frmTo_no HK.out HE.out, HN.out]; exact HO.out, bl_drewN HB.out _⟩
    · obtain rfl : k = ls.length := by omega
      have hltz : ¬ ((ls.length : Nat) : Int) < ((ls.length : Nat) : Int) := by omega
      clear m0 m1 m2 m3 hbm' hbn'
      have hsf := sort_frm q bm nodes ls node W.heap.size _ wr HA.out HBB.out (by omega) (fun X hX => ⟨(HW.out X (HB.out.trans hX)).1, (HW.out X (HB.out.trans hX)).2.1⟩) HO.out HB.out.size
      go_wp2_with (go_at_call 37; refine hsf.mono ?_; rintro e w2 ⟨rfl, hr2, hb2⟩)
      have hj2 : J [] w2 := HJA.out [] W w2 none HJ0.out (below_grown (HB.out.trans hb2)) (by rintro r ⟨⟩)
      generalize hys : outL nodes ls node = ys at *
      have hyl : ys.length < 1000001 := by
        rw [← hys, (outL_perm node HA.out HBB.out).length_eq]
        have := frmTo_len ls node ls.length
        unfold frm
        unfold frmTo at this
        omega
      have HYS := Lib.hid hys
      obtain ⟨g, ob, A2, c2, e2, hoc, hog, hob, hcl⟩ := own_block hr2
      have hfy : (frmTo ls node ls.length).length = ys.length := by simp only [Value.slice.injEq] at e2; exact e2.2.1
      have hAA : A = A2 := by simp only [Value.slice.injEq] at e2; exact e2.1
      subst hAA
      rw [hfy]
      clear e2 hfy
      have HCL := Lib.hid hcl
      have HOB : Hid (ys ≠ [] → w2.heap[g]? = some ob ∧ A = some ⟨g, 0, none⟩) := Lib.hid hob
      have HJ2 := Lib.hid hj2
      clear hsf hr2 hb2 hj2 hob hcl hys HO HB
      go_wp2_with fail
      go_step3
      go_wp2_with fail
      go_loopg [7, 33] (ys.length + 1) (fun gg s7 s33 wr => ∃ k : Nat, k ≤ ys.length ∧ ys.length - k ≤ gg ∧ s33 = .int .i64 k ∧ Aside (J (ys.take k) wr) ∧ Aside (ys ≠ [] → wr.heap[g]? = some ob))
      case atStart => exact ⟨0, by omega, by omega, rfl, HJ2.out, fun h => (HOB.out h).1⟩
      case round =>
        obtain ⟨k, hk, hgg, rfl, HJ, HG⟩ := hrel
        by_cases hlt : k < ys.length
        · have hltz : (k : Int) < (ys.length : Int) := by omega
          have hne : ys ≠ [] := by rintro rfl; simp at hlt
          have hgk : ys[k]? = some ys[k] := List.getElem?_eq_getElem hlt
          generalize ys[k] = y at hgk
          obtain ⟨-, rfl⟩ := HOB.out hne
          have hc := HCL.out wr (HG.out hne) k y hgk
          obtain ⟨fn, tmps, assign, body, hy, hR⟩ := HY.out (ys.take k) y wr HJ.out (by simp; omega)
          go_upto_region 11 with fail
          refine (wpIn_wide (n := n)).1 ?_
          gi_wp2
          refine hR.mono ?_
          rintro e W3 (⟨rfl, hJ3, hk3⟩ | ⟨rfl, hJx3⟩)
          · have hG3 := hk3 g ob (Nat.le_trans HBS.out hog) (HG.out hne) hoc
            have hJ4 : J (ys.take (k + 1)) W3 := by rw [← take_snoc' hgk]; exact hJ3
            have HJ4 := Lib.hid hJ4
            clear hJ3 hJ4 hy hR hc
            gi_wp2
            go_wp2_with fail
            go_roundg (ys.length - (k + 1))
            case measure => omega
            case rel => exact ⟨k + 1, by omega, by omega, by go_num, HJ4.out, fun _ => hG3⟩
          · have hJ4 : Jx (ys.take (k + 1)) W3 := by rw [← take_snoc' hgk]; exact hJx3
            have HJ4 := Lib.hid hJ4
            clear hJx3 hJ4 hy hR hc
            gi_wp2
            go_wp2_with fail
            go_end0
            rw [HR.out]
            exact ⟨⟨_, rfl⟩, .inr ⟨_, List.take_prefix _ _, HJ4.out⟩⟩
        · obtain rfl : k = ys.length := by omega
          have hltz : ¬ ((ys.length : Nat) : Int) < ((ys.length : Nat) : Int) := by omega
          go_wp2_with fail
          go_end0
          rw [HR.out]
          exact ⟨⟨_, rfl⟩, .inl ⟨_, rfl, by simpa using HJ.out⟩⟩
set_option maxRecDepth 100000 in
set_option maxHeartbeats 1000000 in
/-- .. over no map: no round. -/
theorem out1_none (n : Nat) (l bm bn : Nat) (v : Value) (node : Int) (J : List Nat → World → Prop) (W : World) (hv : NoMap W v) (hbm : W.cell? ⟨bm, 0, none⟩ = some v) (h0 : J [] W) :
    CallsIn Fence.wide n Try.prog 36 #[.func (.yield l) #[] #[], .pointer (some ⟨bm, 0, none⟩), .pointer (some ⟨bn, 0, none⟩)] W fun e W' => (∃ v, e = .returned v) ∧ J [] W' := by
  refine callsIn_wide.2 ?_
  have hlm := len_none v W hv
  have hc := AnyF.slices_SortFunc_none (P := Try.prog) { Try.sortIx with } none 0 (.func (.func 38) #[] #[.pointer (some ⟨bm, 0, none⟩)]) W
  change Calls Try.prog 37 _ _ _ at hc
  obtain ⟨a, rfl⟩ := hv.form
  clear hv
  generalize hJ0 : J [] = J0 at *
  have H0 := Lib.hid h0
  clear h0 hJ0
  go_enter Try.func36, Try.ntmps36
  refine wp_scope_straight ?_
  go_wp2_with (go_at_call 14; refine hlm.mono ?_; rintro e w' ⟨rfl, rfl⟩)
  clear hlm
  go_loopg [4, 10] 1 (fun gg s4 s10 wr => s4 = .slice none 0 0 ∧ s10 = .int .i64 0 ∧ W = wr)
  case atStart => exact ⟨rfl, rfl, rfl⟩
  case round =>
    obtain ⟨rfl, rfl, rfl⟩ := hrel
    go_wp2_with (go_at_call 37; refine hc.mono ?_; rintro e w' ⟨rfl, hww⟩; obtain rfl : W = w' := hww.symm)
    clear hc
    go_step3
    go_wp2_with fail
    go_loopg [33] 1 (fun gg s33 wr => s33 = .int .i64 0 ∧ W = wr)
    case atStart => exact ⟨rfl, rfl⟩
    case round =>
      obtain ⟨rfl, rfl⟩ := hrel
      go_wp2_with fail
      rw [Exit.noGoto_normal]
      go_end0
      exact ⟨⟨_, rfl⟩, H0.out⟩
/-- Out hands back the iterator. -/
theorem out_any (a : Option Addr) (node : Int) (w : World) :
    Calls Try.prog 22 #[.pointer a, .int .i64 node] w fun e w' => e = .returned (.func (.func 36) #[] #[.pointer (some ⟨w.heap.size, 0, none⟩), .pointer (some ⟨w.heap.size + 1, 0, none⟩)]) ∧ w' = (w.alloc (.cells #[.pointer a] 30)).alloc (.cells #[.int .i64 node] 3) := by
  go_enter Try.func22, Try.ntmps22
  go_wp2
  go_ret
  exact ⟨rfl, rfl⟩
/-- The iterator of a map, by its contract. -/
theorem out_stops (n : Nat) (hn : 1 ≤ n) (q bm bn nodes : Nat) (ls : List Lk) (node : Int) (w : World) (hm : TMap w q nodes ls) (hbm : w.cell? ⟨bm, 0, none⟩ = some (.pointer (some ⟨q, 0, none⟩))) (hbn : w.cell? ⟨bn, 0, none⟩ = some (.int .i64 node)) (ha : Apart ls) (hb : ∀ l ∈ ls, 0 ≤ l.b ∧ l.b < nodes) (hlen : ls.length ≤ 1000000) :
    SeqStopsK Fence.wide n Try.prog 36 #[.pointer (some ⟨bm, 0, none⟩), .pointer (some ⟨bn, 0, none⟩)] (fun x : Nat => #[Value.int .i64 (x : Nat)]) (KeepsCells w.heap.size) (fun ys => ys = outL nodes ls node) (fun pre => pre <+: outL nodes ls node) (outL nodes ls node).length w := fun l J Jx W hW hJ hJx hY h0 =>
  out1_any n hn l q bm bn w.heap.size nodes ls node J Jx W hW.size hJ hY (hm.below hW) (bl_cell hW hbm) (bl_cell hW hbn) ha hb hlen h0
/-- .. of no map. -/
theorem none_stops (n : Nat) (bm bn : Nat) (v : Value) (node : Int) (w : World) (hv : NoMap w v) (hbm : w.cell? ⟨bm, 0, none⟩ = some v) :
    SeqStopsK Fence.wide n Try.prog 36 #[.pointer (some ⟨bm, 0, none⟩), .pointer (some ⟨bn, 0, none⟩)] (fun x : Nat => #[Value.int .i64 (x : Nat)]) (KeepsCells w.heap.size) (fun ys => ys = []) (fun pre => False) 0 w := fun l J Jx W hW hJ hJx hY h0 =>
  (out1_none n l bm bn v node J W (hv.below hW) (bl_cell hW hbm) h0).mono fun e W' ⟨he, hj⟩ => ⟨he, .inl ⟨[], rfl, hj⟩⟩
end Go.Proofs.Ytfifmkjidljeeaa
