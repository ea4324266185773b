/- Ledger: DeleteFunc over lingers, sieved. -/
import Derived.Test.YtfnijjjfodpnnaaLedA
namespace Go.Proofs.Ytfnijjjfodpnnaa
open Go.RowKit Go.Shelf

theorem idx_any_li (g : Nat) (lb : Array Value) (eg : ∀ args w, (callFunc g args).run Try.prog w = .ok (.enter g args) w) (b : Nat) (c : Nat) (xs : List Ling) (p : Ling → Bool) (w : World) (hlen : xs.length ≤ 9223372036854775807)
    (hrow : RowAt Ling.cells 2 w b 0 xs) (hp : ∀ W x, x ∈ xs → Below w.heap.size w W → Calls Try.prog g (#[Ling.val x] ++ lb) W fun e w' => e = .returned (.bool (p x)) ∧ Below W.heap.size W w') :
    Calls Try.prog 77 #[.slice (some ⟨b, 0, none⟩) xs.length c, .func (.func g) #[] lb] w fun e w' => ∃ r : Int, e = .returned (.int .i64 r) ∧ IdxIs (fun j => p (xs.getD j Ling0)) xs.length r ∧ Below w.heap.size w w' := by
  have hget : ∀ j, j < xs.length → xs[j]? = some (xs.getD j Ling0) := fun j hj => by simp [List.getD, hj]
  exact idx_li g lb eg b 0 xs.length c (fun j => xs.getD j Ling0) (fun j => p (xs.getD j Ling0)) w hlen (fun j hj => LingAt.ofRow hrow (hget j hj))
      (fun W j hj hW => (hp W (xs.getD j Ling0) (List.mem_of_getElem? (hget j hj)) hW).mono fun e w' ⟨he, hb⟩ => ⟨he, hW.trans (hb.mono hW.size)⟩)

/-- What DeleteFunc has made of the row when it stands at j: so many are kept. -/
structure Kept (p : Ling → Bool) (xs : List Ling) (g cap : Nat) (j i : Nat) (w : World) : Prop where
  len : i = ((xs.take j).filter fun x => !p x).length
  blk : ∃ cur : Array Value, w.heap[g]? = some (.cells cur 84 (0, 0)) ∧ cur.size = cap * 2
  low : RowAt Ling.cells 2 w g 0 ((xs.take j).filter fun x => !p x)
  high : ∀ m x, j ≤ m → xs[m]? = some x → LingAt w g (m * 2) x

theorem cell_blk {w : World} {g o : Nat} {t : TypeId} {fr : Nat × Nat} {cur : Array Value} (h : w.heap[g]? = some (.cells cur t fr)) : w.cell? ⟨g, o, none⟩ = cur[o]? := by simp [World.cell?, h]
theorem Kept.below {p : Ling → Bool} {xs : List Ling} {g cap j i : Nat} {w W : World} (h : Kept p xs g cap j i w) (hb : Below w.heap.size w W) : Kept p xs g cap j i W := by
  obtain ⟨h1, ⟨cur, h2, h3⟩, h4, h5⟩ := h
  exact ⟨h1, ⟨cur, (hb.block g (Array.getElem?_eq_some_iff.1 h2).1).trans h2, h3⟩, h4.below hb, fun m x hm hx => (h5 m x hm hx).below hb⟩
theorem Kept.skip {p : Ling → Bool} {xs : List Ling} {g cap j i : Nat} {w : World} (h : Kept p xs g cap j i w) {x : Ling} (hx : xs[j]? = some x) (hq : p x = true) : Kept p xs g cap (j + 1) i w := by
  obtain ⟨h1, h2, h4, h5⟩ := h
  have hlt := (List.getElem?_eq_some_iff.1 hx).1
  have e : (xs.take (j + 1)).filter (fun x => !p x) = (xs.take j).filter fun x => !p x := by
    rw [List.take_add_one, hx]
    simp [List.filter_append, hq]
  exact ⟨by rw [e]; exact h1, h2, by rw [e]; exact h4, fun m x hm hx => h5 m x (by omega) hx⟩
theorem heap_set2 {w : World} {g : Nat} {t : TypeId} {fr : Nat × Nat} {cur : Array Value} (h : w.heap[g]? = some (.cells cur t fr)) (o : Nat) (a b : Value) :
    ((w.setCell ⟨g, o, none⟩ a).setCell ⟨g, o + 1, none⟩ b).heap[g]? = some (.cells ((cur.setIfInBounds o a).setIfInBounds (o + 1) b) t fr) := by
  simp [World.setCell, Array.getElem?_modify, h]
theorem Kept.keep {p : Ling → Bool} {xs : List Ling} {g cap j i : Nat} {w : World} (h : Kept p xs g cap j i w) (hij : i < j) (hcap : xs.length ≤ cap) {x : Ling} (hx : xs[j]? = some x) (hq : p x = false) :
    Kept p xs g cap (j + 1) (i + 1) ((w.setCell ⟨g, i * 2, none⟩ (.int .i64 x.r)).setCell ⟨g, i * 2 + 1, none⟩ (.int .i64 x.u)) := by
  obtain ⟨h1, ⟨cur, h2, h3⟩, h4, h5⟩ := h
  have hlt := (List.getElem?_eq_some_iff.1 hx).1
  have hb := heap_set2 h2 (i * 2) (.int .i64 x.r) (.int .i64 x.u)
  have e : (xs.take (j + 1)).filter (fun x => !p x) = ((xs.take j).filter fun x => !p x) ++ [x] := by
    rw [List.take_add_one, hx]
    simp [List.filter_append, hq]
  refine ⟨by rw [e, List.length_append, ← h1]; rfl, ⟨_, hb, by simpa using h3⟩, ?_, ?_⟩
  · rw [e]
    intro m y hm t u hu
    rw [cell_blk hb, Nat.zero_add]
    by_cases hmi : m < i
    · rw [List.getElem?_append_left (by omega)] at hm
      have := h4 m y hm t u hu
      rw [cell_blk h2, Nat.zero_add] at this
      have ht : t < 2 := by have := (List.getElem?_eq_some_iff.1 hu).1; simpa [Ling.cells] using this
      rw [Array.getElem?_setIfInBounds, if_neg (by omega), Array.getElem?_setIfInBounds, if_neg (by omega)]
      exact this
    · rw [List.getElem?_append_right (by omega), ← h1] at hm
      have hm0 : m = i := by
        have := (List.getElem?_eq_some_iff.1 hm).1
        simp at this
        omega
      subst hm0
      simp at hm
      subst hm
      match t, hu with
      | 0, hu =>
        simp [Ling.cells] at hu
        rw [Array.getElem?_setIfInBounds, if_neg (by omega), Array.getElem?_setIfInBounds, if_pos (by omega), if_pos (by omega), hu]
      | 1, hu =>
        simp [Ling.cells] at hu
        rw [Array.getElem?_setIfInBounds, if_pos (by omega), if_pos (by simp; omega), hu]
      | t + 2, hu => simp [Ling.cells] at hu
  · intro m y hm hy
    obtain ⟨g0, g1⟩ := h5 m y (by omega) hy
    rw [cell_blk h2] at g0 g1
    unfold LingAt
    rw [cell_blk hb, cell_blk hb, Array.getElem?_setIfInBounds, if_neg (by omega), Array.getElem?_setIfInBounds, if_neg (by omega), Array.getElem?_setIfInBounds, if_neg (by omega), Array.getElem?_setIfInBounds, if_neg (by omega)]
    exact ⟨g0, g1⟩

theorem grown_below {w a b : World} {g : Nat} (h : w.grownBy a (some g)) (hb : Below a.heap.size a b) : w.grownBy b (some g) :=
  ⟨hb.os.trans h.os, hb.tape.trans h.tape, hb.output.trans h.output, Nat.le_trans h.size hb.size, fun k hk hne => (hb.block k (Nat.lt_of_lt_of_le hk h.size)).trans (h.block k hk hne)⟩
theorem grown_grown {w a b : World} {g : Nat} (h : w.grownBy a (some g)) (k : a.grownBy b (some g)) : w.grownBy b (some g) :=
  ⟨k.os.trans h.os, k.tape.trans h.tape, k.output.trans h.output, Nat.le_trans h.size k.size, fun i hi hne => (k.block i (Nat.lt_of_lt_of_le hi h.size) hne).trans (h.block i hi hne)⟩
theorem grown_set {w a : World} {g : Nat} (h : w.grownBy a (some g)) (o : Nat) (v : Value) : w.grownBy (a.setCell ⟨g, o, none⟩ v) (some g) :=
  ⟨h.os, h.tape, h.output, by simpa [World.setCell] using h.size, fun k hk hne => (Below.heap_setCell _ _ _ _ (fun e => hne (by rw [e]))).trans (h.block k hk hne)⟩

/-- clear: so many zero values of k cells. -/
theorem run_clear_row {P : Program} (w : World) (t e : TypeId) (z : Value) (ht : P.underlying t = some (.slice e)) (hv : ∀ w, (zeroValue e).run P w = .ok z w) (h1 : ∀ u ∈ z.cells.toList, u.oneCell' = true) (hk : 0 < z.cells.size) (g o n c : Nat) (cur : Array Value) (ty : TypeId) (h : w.heap[g]? = some (.cells cur e (0, 0))) (hs : o + n * z.cells.size ≤ cur.size) :
    ∃ w', (Builtin.clear_ #[t] ty #[.slice (some ⟨g, o, none⟩) n c]).run P w = .ok (.tuple #[]) w' ∧ w.grownBy w' (some g) ∧ (∀ k, k < o → w'.cell? ⟨g, k, none⟩ = w.cell? ⟨g, k, none⟩) := by
  have hlen : (Builtin.zeroCells z.cells n).toList.length = n * z.cells.size := by simp [Builtin.zeroCells]
  have hone : ∀ u ∈ (Builtin.zeroCells z.cells n).toList, u.oneCell' = true := by
    intro u hu
    simp [Builtin.zeroCells] at hu
    obtain ⟨i, hi, rfl⟩ := hu
    have hm : i % z.cells.size < z.cells.size := Nat.mod_lt _ hk
    rw [getElem!_pos z.cells _ hm]
    exact h1 _ (by simp)
  have hst := run_storeCells_at (P := P) g o e (Builtin.zeroCells z.cells n).toList 0 cur w h (by rw [hlen]; omega) hone
  rw [Nat.add_zero] at hst
  cases n with
  | zero =>
    exact ⟨w, by simp [Builtin.clear_, run_underlying ht], ⟨rfl, rfl, rfl, Nat.le_refl _, fun _ _ _ => rfl⟩, fun _ _ => rfl⟩
  | succ n =>
    have hg := setRow_heap w g cur (cur.toList.take o ++ (Builtin.zeroCells z.cells (n + 1)).toList ++ cur.toList.drop (o + (Builtin.zeroCells z.cells (n + 1)).toList.length)).toArray e (0, 0) h
    obtain ⟨R, hR⟩ : ∃ R, R = (cur.toList.take o ++ (Builtin.zeroCells z.cells (n + 1)).toList ++ cur.toList.drop (o + (Builtin.zeroCells z.cells (n + 1)).toList.length)).toArray := ⟨_, rfl⟩
    rw [← hR] at hg hst
    refine ⟨w.setRow g R, by simp [Builtin.clear_, run_underlying ht, hv, hst], ⟨rfl, rfl, rfl, by simp [World.setRow], fun k hk hne => ?_⟩, fun k hko => ?_⟩
    · simp only [World.setRow, Array.getElem?_modify]
      rw [if_neg (fun e => hne (by rw [e]))]
    · rw [cell_blk hg, cell_blk h, hR]
      rw [List.getElem?_toArray, List.append_assoc, List.getElem?_append_left (by simp; omega), List.getElem?_take, if_pos hko]
      simp
set_option maxRecDepth 100000 in
set_option maxHeartbeats 1000000 in
/-- slices.DeleteFunc of a row of the call's own. -/
theorem deleteFunc_li (f : Nat) (lb : Array Value) (eg : ∀ args w, (callFunc f args).run Try.prog w = .ok (.enter f args) w) (g cap : Nat) (xs : List Ling) (p : Ling → Bool) (w : World) (cur : Array Value)
    (hblk : w.heap[g]? = some (.cells cur 84 (0, 0))) (hcur : cur.size = cap * 2) (hcap : xs.length ≤ cap) (hmax : cap ≤ maxLen) (hrow : RowAt Ling.cells 2 w g 0 xs)
    (hp : ∀ W x, x ∈ xs → w.grownBy W (some g) → Calls Try.prog f (#[Ling.val x] ++ lb) W fun e w' => e = .returned (.bool (p x)) ∧ Below W.heap.size W w') :
    Calls Try.prog 70 #[.slice (some ⟨g, 0, none⟩) xs.length cap, .func (.func f) #[] lb] w fun e w' => ∃ v, e = .returned v ∧ SAt Ling.cells 2 w' v (xs.filter fun x => !p x) ∧ w.grownBy w' (some g) := by
  unfold maxLen at hmax
  have hgb : ∀ W, Below w.heap.size w W → w.grownBy W (some g) := fun W hb => ⟨hb.os, hb.tape, hb.output, hb.size, fun k hk _ => hb.block k hk⟩
  have hidx := idx_any_li f lb eg g cap xs p w (by omega) hrow (fun W x hx hb => hp W x hx (hgb W hb))
  have hget : ∀ j, j < xs.length → xs[j]? = some (xs.getD j Ling0) := fun j hj => by simp [List.getD, hj]
  have HG := Lib.hid hget
  have HP := Lib.hid hp
  have HROW := Lib.hid hrow
  have HBLK := Lib.hid hblk
  clear hget hp hrow hblk
  by_cases hall : ∀ j, j < xs.length → p (xs.getD j Ling0) = false
  · have hf : xs.filter (fun x => !p x) = xs := List.filter_eq_self.2 fun x hx => by
      obtain ⟨j, hj⟩ := List.getElem?_of_mem hx
      have h1 := hall j (List.getElem?_eq_some_iff.1 hj).1
      rw [HG.out j (List.getElem?_eq_some_iff.1 hj).1] at hj
      cases hj
      rw [h1]; rfl
    have HF := Lib.hid hf
    have hidx1 : Calls Try.prog 77 #[.slice (some ⟨g, 0, none⟩) xs.length cap, .func (.func f) #[] lb] w fun e w' => e = .returned (.int .i64 (-1)) ∧ Below w.heap.size w w' := hidx.mono fun e w' ⟨r, he, hr, hb⟩ => by
      rcases hr with ⟨rfl, _⟩ | ⟨k, hk, _, h1, _⟩
      · exact ⟨he, hb⟩
      · have h1 : p (xs.getD k Ling0) = true := h1
        rw [hall k hk] at h1; cases h1
    clear hidx hf hall
    go_enter Try.func70, Try.ntmps70
    go_wp2_with (go_at_call 77; refine hidx1.mono ?_; rintro e w1 ⟨rfl, hb1⟩)
    go_ret
    exact ⟨_, rfl, by rw [HF.out]; exact Or.inr ⟨g, 0, cap, rfl, hcap, by unfold maxLen; omega, HROW.out.below hb1⟩, hgb _ hb1⟩
  · have hidx1 : Calls Try.prog 77 #[.slice (some ⟨g, 0, none⟩) xs.length cap, .func (.func f) #[] lb] w fun e w' => ∃ k : Nat, e = .returned (.int .i64 k) ∧ Aside (k < xs.length ∧ p (xs.getD k Ling0) = true ∧ ∀ j, j < k → p (xs.getD j Ling0) = false) ∧ Below w.heap.size w w' := hidx.mono fun e w' ⟨r, he, hr, hb⟩ => by
      rcases hr with ⟨_, h1⟩ | ⟨k, hk, rfl, h1, h2⟩
      · exact absurd h1 hall
      · exact ⟨k, he, ⟨hk, h1, h2⟩, hb⟩
    clear hidx hall
    go_enter Try.func70, Try.ntmps70
    go_wp2_with fail
    refine hidx1.mono ?_
    rintro e w1 ⟨k0, rfl, hk0, hb1⟩
    have hk1 : (k0 : Int) < (xs.length : Int) := by have := hk0.out.1; omega
    have hkz : ((k0 : Int) == -1) = false := beq_eq_false_iff_ne.2 (by omega)
    have HB1 := Lib.hid hb1
    clear hidx1 hb1
    go_wp2_with fail
    go_loopg [5, 6] xs.length (fun gg s5 s6 wr => ∃ i j : Nat, s5 = .int .i64 i ∧ s6 = .int .i64 j ∧ i < j ∧ j ≤ xs.length ∧ xs.length - j ≤ gg ∧ Aside (Kept p xs g cap j i wr) ∧ Aside (w.grownBy wr (some g)))
    case atStart =>
      have h0 := HBLK.out
      have hb1 := HB1.out
      have hrow1 := HROW.out.below hb1
      obtain ⟨hk0a, hk0b, hk0c⟩ := hk0.out
      have e : (xs.take (k0 + 1)).filter (fun x => !p x) = xs.take k0 := by
        rw [List.take_add_one, HG.out k0 hk0a, List.filter_append]
        have e1 : (xs.take k0).filter (fun x => !p x) = xs.take k0 := List.filter_eq_self.2 fun x hx => by
          obtain ⟨j, hj, rfl⟩ := List.mem_take_iff_getElem.1 hx
          have h1 := hk0c j (by omega)
          have h2 : xs.getD j Ling0 = xs[j] := by simp [List.getD]; rw [List.getElem?_eq_getElem (by omega)]; rfl
          rw [← h2, h1]; rfl
        have e2 : p (xs[k0]?.getD Ling0) = true := by simpa [List.getD] using hk0b
        rw [e1]
        simp [e2]
      exact ⟨k0, k0 + 1, rfl, by go_num, by omega, by omega, by omega, ⟨by rw [e]; simp; omega, ⟨cur, (hb1.block g (Array.getElem?_eq_some_iff.1 h0).1).trans h0, hcur⟩, by rw [e]; exact hrow1.take k0, fun m x _ hx => by have := LingAt.ofRow hrow1 hx; simpa using this⟩, hgb _ hb1⟩
    case round =>
      obtain ⟨i, j, rfl, rfl, hij, hj, hgg, HK, HGR⟩ := hrel
      by_cases hlt : j < xs.length
      · have hltz : (j : Int) < (xs.length : Int) := by omega
        have hgj := HG.out j hlt
        generalize xs.getD j Ling0 = x at hgj
        have hx := List.mem_of_getElem? hgj
        obtain ⟨c0, c1⟩ := HK.out.high j x (Nat.le_refl _) hgj
        have hgw : g < wr.heap.size := World.block_lt_of_cell? wr ⟨g, j * 2, none⟩ c0
        have hba : Below wr.heap.size wr (wr.alloc (.cells #[.int .i64 x.r, .int .i64 x.u] 84)) := bl_alloc (Below.refl _ _) _
        have hcall := HP.out _ x hx (grown_below HGR.out hba)
        simp only [Ling.val] at hcall
        have HGJ := Lib.hid hgj
        have HBA := Lib.hid hba
        clear hx hgj hba
        cases hq : p x with
        | true =>
          rw [hq] at hcall
          have HQ := Lib.hid hq
          clear hq
          go_wp2_with (go_at_fn f; refine hcall.mono ?_; rintro e w2 ⟨rfl, hb2⟩)
          go_roundg (xs.length - (j + 1))
          case measure => omega
          case rel =>
            have hbb := bl_then HBA.out hb2
            exact ⟨i, j + 1, rfl, by go_num, by omega, by omega, by omega, (HK.out.below hbb).skip HGJ.out HQ.out, grown_below HGR.out hbb⟩
        | false =>
          rw [hq] at hcall
          have HQ := Lib.hid hq
          clear hq
          go_wp2_with fail
          refine hcall.mono ?_
          rintro e w2 ⟨rfl, hb2⟩
          have hbb := bl_then HBA.out hb2
          have hK2 := HK.out.below hbb
          obtain ⟨cur2, h2, h3⟩ := hK2.blk
          have hi0 : i * 2 < cur2.size := by omega
          have hi1 : i * 2 + 1 < cur2.size := by omega
          have o0 : w2.cell? ⟨g, i * 2, none⟩ = some cur2[i * 2] := by rw [cell_blk h2, Array.getElem?_eq_getElem hi0]
          have o1 : w2.cell? ⟨g, i * 2 + 1, none⟩ = some cur2[i * 2 + 1] := by rw [cell_blk h2, Array.getElem?_eq_getElem hi1]
          have f0 : w2.frozen? ⟨g, i * 2, none⟩ = false := by simp [World.frozen?, h2]
          have f1 : w2.frozen? ⟨g, i * 2 + 1, none⟩ = false := by simp [World.frozen?, h2]
          generalize cur2[i * 2] = z0 at o0
          generalize cur2[i * 2 + 1] = z1 at o1
          have b0 : w2.cell? ⟨wr.heap.size, 0, none⟩ = some (.int .i64 x.r) := bl_cell hb2 (by go_simp)
          have b1 : w2.cell? ⟨wr.heap.size, 1, none⟩ = some (.int .i64 x.u) := bl_cell hb2 (by go_simp)
          have HK2 := Lib.hid hK2
          have HBB := Lib.hid hbb
          have hiz : (i : Int) < (xs.length : Int) := by omega
          clear hcall hb2 hbb hK2 h2 h3 hi0 hi1 c0 c1
          go_wp2_with fail
          go_roundg (xs.length - (j + 1))
          case measure => omega
          case rel =>
            exact ⟨i + 1, j + 1, by go_num, by go_num, by omega, by omega, by omega, HK2.out.keep hij hcap HGJ.out HQ.out, grown_set (grown_set (grown_below HGR.out HBB.out) _ _) _ _⟩
      · have hltz : ¬ (j : Int) < (xs.length : Int) := by omega
        have hje : j = xs.length := by omega
        subst hje
        obtain ⟨cur2, h2, h3⟩ := HK.out.blk
        obtain ⟨w3, hcl, hg3, hc3⟩ := run_clear_row (P := Try.prog) wr 63 84 (.agg #[.int .i64 0, .int .i64 0]) Try.underlying63 (fun w => by kernel_rfl) (by intro u hu; simp [Value.cells] at hu; rcases hu with rfl | rfl <;> rfl) (by decide) g (i * 2) (xs.length - i) (cap - i) cur2 0 h2 (by simp [Value.cells]; omega)
        have hfin : RowAt Ling.cells 2 w3 g 0 (xs.filter fun x => !p x) := fun m x hm t u hu => by
          have hl := HK.out.low
          have hlen := HK.out.len
          rw [List.take_length] at hl hlen
          have h5 := hl m x hm t u hu
          have hmi : m < i := by have := (List.getElem?_eq_some_iff.1 hm).1; omega
          have ht : t < 2 := by have := (List.getElem?_eq_some_iff.1 hu).1; simpa [Ling.cells] using this
          rw [Nat.zero_add] at h5 ⊢
          exact (hc3 (m * 2 + t) (by omega)).trans h5
        have hlen : (xs.filter fun x => !p x).length = i := by have := HK.out.len; rw [List.take_length] at this; exact this.symm
        have HFIN := Lib.hid hfin
        have HLEN := Lib.hid hlen
        have HG3 := Lib.hid hg3
        clear hfin hlen hg3 hc3 h2 h3
        go_wp2_with fail
        go_ret
        refine ⟨_, rfl, Or.inr ⟨g, 0, cap, by rw [HLEN.out]; rfl, by rw [HLEN.out]; omega, by unfold maxLen; omega, HFIN.out⟩, grown_grown HGR.out HG3.out⟩

set_option maxHeartbeats 400000 in
theorem deleteNil_li (fv : Value) (w : World) :
    Calls Try.prog 70 #[.slice none 0 0, fv] w fun e w' => e = .returned (.slice none 0 0) ∧ w = w' := by
  go_enter Try.func70, Try.ntmps70
  go_wp2_with (go_at_call 77; refine (idxnil_li _ _).mono ?_; rintro e w' ⟨rfl, rfl⟩)
  go_ret
  exact ⟨rfl, rfl⟩
set_option maxHeartbeats 400000 in
theorem later_any (l : Ling) (now : Int) (w : World) :
    Calls Try.prog 60 #[.agg #[.int .i64 l.r, .int .i64 l.u], .int .i64 now] w fun e w' => e = .returned (.bool (decide (now < l.u))) ∧ Below w.heap.size w w' := by
  go_enter Try.func60, Try.ntmps60
  go_wp2
  go_ret
  exact ⟨rfl, bl_alloc (Below.refl _ _) _⟩
set_option maxHeartbeats 400000 in
theorem taken1_any (l : Ling) (now : Int) (b : Nat) (w : World) (hb : b < w.heap.size) (h : w.cell? ⟨b, 0, none⟩ = some (.int .i64 now)) :
    Calls Try.prog 59 #[.agg #[.int .i64 l.r, .int .i64 l.u], .pointer (some ⟨b, 0, none⟩)] w fun e w' => e = .returned (.bool (decide (now < l.u))) ∧ Below w.heap.size w w' := by
  go_enter Try.func59, Try.ntmps59
  go_wp2_with (go_at_call 60; refine (later_any l now _).mono ?_; rintro e w' ⟨rfl, hb'⟩)
  go_ret
  exact ⟨rfl, (bl_alloc (Below.refl _ _) _).trans (hb'.mono (by simp))⟩
set_option maxHeartbeats 400000 in
/-- The closure of sieved, over the predicate of taken. -/
theorem sieved1_any (l : Ling) (now : Int) (b c : Nat) (w : World) (hb : b < w.heap.size) (hc : c < w.heap.size) (h : w.cell? ⟨b, 0, none⟩ = some (.int .i64 now)) (h2 : w.cell? ⟨c, 0, none⟩ = some (.func (.func 59) #[] #[.pointer (some ⟨b, 0, none⟩)])) :
    Calls Try.prog 71 #[.agg #[.int .i64 l.r, .int .i64 l.u], .pointer (some ⟨c, 0, none⟩)] w fun e w' => e = .returned (.bool (!decide (now < l.u))) ∧ Below w.heap.size w w' := by
  cases hq : decide (now < l.u)
  all_goals
    have HQ := Lib.hid hq
    clear hq
    go_enter Try.func71, Try.ntmps71
    go_wp2_with (go_at_call 59; refine (taken1_any l now b _ (by simp; omega) (bl_cell (bl_alloc (Below.refl _ _) _) h)).mono ?_; rintro e w' ⟨rfl, hb'⟩; rw [HQ.out])
    go_ret
    exact ⟨rfl, (bl_alloc (Below.refl _ _) _).trans (hb'.mono (by simp))⟩
set_option maxRecDepth 100000 in
set_option maxHeartbeats 400000 in
/-- sieved, over the predicate of taken: those that linger. -/
theorem sieved_any (gs : List Ling) (v : Value) (now : Int) (b : Nat) (w : World) (hs : SAt Ling.cells 2 w v gs) (hbig : gs.length * 16 ≤ 140737488355328) (h : w.cell? ⟨b, 0, none⟩ = some (.int .i64 now)) :
    Calls Try.prog 58 #[v, .func (.func 59) #[] #[.pointer (some ⟨b, 0, none⟩)]] w fun e w' => ∃ v', e = .returned v' ∧ SAt Ling.cells 2 w' v' (gs.filter fun l => decide (now < l.u)) ∧ Below w.heap.size w w' := by
  have hblt : b < w.heap.size := World.block_lt_of_cell? w ⟨b, 0, none⟩ h
  have eg : ∀ args w, (callFunc 71 args).run Try.prog w = .ok (.enter 71 args) w := enters_of Try.func71 (by kernel_rfl) rfl
  have hlen := hs.len
  have hw1 := bl_alloc (Below.refl w.heap.size w) (.cells #[.func (.func 59) #[] #[.pointer (some ⟨b, 0, none⟩)]] 105)
  have hcl := clone_li v gs _ (hs.below hw1) hbig
  clear hs
  go_enter Try.func58, Try.ntmps58
  go_wp2_with fail
  refine hcl.mono ?_
  rintro e w1 ⟨v1, rfl, hs1, ho1, -, hb1⟩
  have hc0 := bl_cell hb1 (bl_cell hw1 h)
  have hcf : w1.cell? ⟨w.heap.size, 0, none⟩ = some (.func (.func 59) #[] #[.pointer (some ⟨b, 0, none⟩)]) := bl_cell hb1 (by go_simp)
  have hbb : Below w.heap.size w w1 := hw1.trans (hb1.mono (by simp))
  have hsz := hb1.size
  simp at hsz
  have HBB := Lib.hid hbb
  rcases ho1 with ⟨hl1, ⟨rfl, h0⟩ | ⟨g, cap, cur, rfl, hg1, hg2, hg3, hg4, hg5, hg6⟩⟩
  · have hgs : gs = [] := List.eq_nil_of_length_eq_zero h0
    subst hgs
    clear hcl hw1 hs1 hl1 hbb
    go_wp2_with (go_at_call 70; refine (deleteNil_li _ _).mono ?_; rintro e w' ⟨rfl, rfl⟩)
    go_ret
    exact ⟨_, rfl, SAt.nil, HBB.out⟩
  · have hrow : RowAt Ling.cells 2 w1 g 0 gs := by
      rcases hs1 with ⟨h1, _⟩ | ⟨b', o', c', h1, _, _, h2⟩
      · cases h1
      · injection h1 with h1
        injection h1 with h1
        injection h1 with h1 h1'
        subst h1 h1'
        exact h2
    simp at hg1
    have hdel := deleteFunc_li 71 #[.pointer (some ⟨w.heap.size, 0, none⟩)] eg g cap gs (fun l => !decide (now < l.u)) w1 cur hg2 hg5 hg3 hg4 hrow
      (fun W x _ hW => by
        have k0 : W.cell? ⟨b, 0, none⟩ = some (.int .i64 now) := (World.cell?_of_block (w := w1) (a := ⟨b, 0, none⟩) (hW.block b (by omega) (by simp; omega))).trans hc0
        have k1 := (World.cell?_of_block (w := w1) (a := ⟨w.heap.size, 0, none⟩) (hW.block w.heap.size (by omega) (by simp; omega))).trans hcf
        exact sieved1_any x now b w.heap.size W (World.block_lt_of_cell? W ⟨b, 0, none⟩ k0) (World.block_lt_of_cell? W ⟨_, 0, none⟩ k1) k0 k1)
    clear hcl hw1 hs1 hl1 hbb hg2 hg5 hg6 hrow hc0 hcf
    go_wp2_with (go_at_call 70; refine hdel.mono ?_; rintro e w2 ⟨v2, rfl, hs2, hg7⟩)
    go_ret
    refine ⟨_, rfl, by simpa using hs2, HBB.out.grown hg7 HBB.out.size (by intro k hk; cases hk; omega)⟩
end Go.Proofs.Ytfnijjjfodpnnaa
