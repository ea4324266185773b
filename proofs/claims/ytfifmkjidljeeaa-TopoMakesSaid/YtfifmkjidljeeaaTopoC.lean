/- Topo: Clone of links, what a map is in memory, its simple methods. -/
import Derived.Test.YtfifmkjidljeeaaTopoB
import Derived.Deep.Light
import Derived.Shelf.GgClosure.Gives
import Derived.Test.YtfifmkjidljeeaaMaps
import Derived.Test.YtfifmkjidljeeaaSlices
namespace Go.Proofs.Ytfifmkjidljeeaa
open Go.RowKit Go.Shelf

set_option maxHeartbeats 400000 in
/-- slices.IndexFunc at structs: the first place at which it is so, or -1. -/
theorem idx_lk (g : Nat) (lb : Array Value) (eg : ∀ args w, (callFunc g args).run Try.prog w = .ok (.enter g args) w) (b off n c : Nat) (vs : Nat → Lk) (p : Nat → Bool) (w : World) (hbig : n ≤ 9223372036854775807)
    (hc : ∀ j, j < n → LkAt w b (off + j * 8) (vs j)) (hp : ∀ W j, j < n → Below w.heap.size w W → Calls Try.prog g (#[(vs j).val] ++ lb) W fun e w' => e = .returned (.bool (p j)) ∧ Below w.heap.size w w') :
    Calls Try.prog 47 #[.slice (some ⟨b, off, none⟩) n c, .func (.func g) #[] lb] w fun e w' => ∃ r : Int, e = .returned (.int .i64 r) ∧ IdxIs p n r ∧ Below w.heap.size w w' := by
  have hcW : ∀ (W : World), Below w.heap.size w W → ∀ j, j < n → LkAt W b (off + j * 8) (vs j) := fun W hW j hj => (hc j hj).below hW
  clear hc
  go_enter Try.func47, Try.ntmps47
  go_wp2
  go_loopg [5, 8] n (fun gg _ s8 wr => ∃ kk : Nat, kk ≤ n ∧ n - kk ≤ gg ∧ s8 = .int .i64 kk ∧ Aside (Below w.heap.size w wr) ∧ Aside (∀ j, j < kk → p j = false))
  case atStart => exact ⟨0, Nat.zero_le _, by omega, rfl, Below.refl _ w, fun j hj => absurd hj (Nat.not_lt_zero _)⟩
  case round =>
    obtain ⟨kk, hkk, hg, rfl, BW, A⟩ := hrel
    by_cases hlt : kk < n
    · have hltz : (kk : Int) < (n : Int) := by omega
      have l2 := hcW wr BW.out kk hlt
      have hcall := hp wr kk hlt BW.out
      clear hcW hp
      generalize vs kk = y at l2 hcall
      simp only [Lk.val] at hcall
      obtain ⟨c0, c1, c2, c3, c4, c5, c6, c7⟩ := l2
      cases hq : p kk with
      | true =>
        rw [hq] at hcall
        have HQ := Lib.hid hq
        clear hq
        go_wp2_with (go_at_fn g; refine hcall.mono ?_; rintro e w' ⟨rfl, hb'⟩)
        go_ret
        exact ⟨_, rfl, Or.inr ⟨kk, hlt, rfl, HQ.out, A.out⟩, hb'⟩
      | false =>
        rw [hq] at hcall
        have HQ := Lib.hid hq
        clear hq
        go_wp2_with (go_at_fn g; refine hcall.mono ?_; rintro e w' ⟨rfl, hb'⟩)
        go_roundg (n - (kk + 1))
        case measure => omega
        case rel =>
          refine ⟨kk + 1, by omega, by omega, by go_num, hb', (show Aside _ from fun j hj => ?_)⟩
          by_cases e : j = kk
          · subst e
            exact HQ.out
          · exact A.out j (by omega)
    · have hltz : ¬ (kk : Int) < (n : Int) := by omega
      have : kk = n := by omega
      subst this
      go_wp2
      go_ret
      exact ⟨_, rfl, Or.inl ⟨rfl, A.out⟩, BW.out⟩

set_option maxHeartbeats 400000 in
theorem idxnil_lk (fv : Value) (w : World) :
    Calls Try.prog 47 #[.slice none 0 0, fv] w fun e w' => e = .returned (.int .i64 (-1)) ∧ w = w' := by
  go_enter Try.func47, Try.ntmps47
  go_wp2
  go_loopg [5, 8] 0 (fun _ _ s8 wr => s8 = .int .i64 0 ∧ w = wr)
  case atStart => exact ⟨rfl, rfl⟩
  case round =>
    obtain ⟨rfl, rfl⟩ := hrel
    go_wp2
    go_ret
    exact ⟨rfl, rfl⟩


set_option maxHeartbeats 400000 in
/-- slices.ContainsFunc at structs. -/
theorem has_lk (g : Nat) (lb : Array Value) (eg : ∀ args w, (callFunc g args).run Try.prog w = .ok (.enter g args) w) (b off n c : Nat) (vs : Nat → Lk) (p : Nat → Bool) (w : World) (hbig : n ≤ 9223372036854775807)
    (hc : ∀ j, j < n → LkAt w b (off + j * 8) (vs j)) (hp : ∀ W j, j < n → Below w.heap.size w W → Calls Try.prog g (#[(vs j).val] ++ lb) W fun e w' => e = .returned (.bool (p j)) ∧ Below w.heap.size w w') :
    Calls Try.prog 31 #[.slice (some ⟨b, off, none⟩) n c, .func (.func g) #[] lb] w fun e w' => e = .returned (.bool ((List.range n).any p)) ∧ Below w.heap.size w w' := by
  have H := idx_lk g lb eg b off n c vs p w hbig hc hp
  clear hc hp
  go_enter Try.func31, Try.ntmps31
  go_wp2_with (go_at_call 47; refine H.mono ?_; rintro e w' ⟨r, rfl, hr, hb'⟩; have HR := Lib.hid hr; clear hr)
  go_ret
  exact ⟨by rw [← HR.out.any]; rfl, hb'⟩

theorem any_range_lk (xs : List Lk) (d : Lk) (p : Lk → Bool) : (List.range xs.length).any (fun j => p (xs.getD j d)) = xs.any p := by
  rw [Bool.eq_iff_iff, List.any_eq_true, List.any_eq_true]
  constructor
  · rintro ⟨j, hj, h⟩
    have hj := List.mem_range.1 hj
    exact ⟨xs[j], List.getElem_mem _, by simpa [List.getD, hj] using h⟩
  · rintro ⟨x, hx, h⟩
    obtain ⟨j, hj, rfl⟩ := List.mem_iff_getElem.1 hx
    exact ⟨j, List.mem_range.2 hj, by simpa [List.getD, hj] using h⟩

set_option maxHeartbeats 400000 in
/-- slices.ContainsFunc over a slice of structs, nil too. -/
theorem any_lk (g : Nat) (lb : Array Value) (eg : ∀ args w, (callFunc g args).run Try.prog w = .ok (.enter g args) w) (v : Value) (xs : List Lk) (p : Lk → Bool) (w : World)
    (hs : SAt Lk.cells 8 w v xs) (hp : ∀ W x, x ∈ xs → Below w.heap.size w W → Calls Try.prog g (#[Lk.val x] ++ lb) W fun e w' => e = .returned (.bool (p x)) ∧ Below W.heap.size W w') :
    Calls Try.prog 31 #[v, .func (.func g) #[] lb] w fun e w' => e = .returned (.bool (xs.any p)) ∧ Below w.heap.size w w' := by
  have hlen := hs.len
  rcases hs with ⟨rfl, rfl⟩ | ⟨b, o, c, rfl, _, _, hrow⟩
  · go_enter Try.func31, Try.ntmps31
    go_wp2_with (go_at_call 47; refine (idxnil_lk _ _).mono ?_; rintro e w' ⟨rfl, rfl⟩)
    go_ret
    exact ⟨rfl, Below.refl _ _⟩
  · unfold maxLen at hlen
    have hget : ∀ j, j < xs.length → xs[j]? = some (xs.getD j Lk0) := fun j hj => by simp [List.getD, hj]
    rw [← any_range_lk xs Lk0 p]
    exact has_lk g lb eg b o xs.length c (fun j => xs.getD j Lk0) (fun j => p (xs.getD j Lk0)) w (by omega) (fun j hj => LkAt.ofRow hrow (hget j hj))
      (fun W j hj hW => (hp W (xs.getD j Lk0) (List.mem_of_getElem? (hget j hj)) hW).mono fun e w' ⟨he, hb⟩ => ⟨he, hW.trans (hb.mono hW.size)⟩)


theorem info_lk : (Try.prog.info? 23).map (fun i => (i.zero, i.size, i.bytes)) = some (some (.agg #[.int .i64 0, .int .i64 0, .int .i64 0, .int .i64 0, .int .i64 0, .int .i64 0, .int .i64 0, .int .i64 0]), 8, 64) := by kernel_rfl
set_option maxHeartbeats 1000000 in
set_option maxRecDepth 100000 in
/-- slices.Clone. -/
theorem clone_lk (v : Value) (xs : List Lk) (w : World) (h : SAt Lk.cells 8 w v xs) (hbig : xs.length * 64 ≤ 140737488355328) :
    Calls Try.prog 30 #[v] w fun e w' => ∃ v', e = .returned v' ∧ SAt Lk.cells 8 w' v' xs ∧ w'.ownsRow w.heap.size 23 8 v' xs.length (xs.flatMap Lk.cells) ∧ (v' = .slice none 0 0 ↔ v = .slice none 0 0) ∧ Below w.heap.size w w' := by
  have q22 : ∀ (w : World) (a : Option Addr) (n c n' c' : Nat), (binOp .eql 28 (.slice a n c) (.slice none n' c')).run Try.prog w = .ok (.bool a.isNone) w := fun w a n c n' c' => Lib.run_eql_slice_nil w _ _ a n c n' c' Try.underlying28
  have hk : ∀ x : Lk, (Lk.cells x).length = 8 := fun _ => rfl
  have hlen := h.len
  obtain ⟨i0, hi, hz0, hz1, hz2⟩ := info_parts info_lk
  rcases h with ⟨rfl, rfl⟩ | ⟨b, o, c, rfl, hc1, hc2, hrow⟩
  · go_enter Try.func30, Try.ntmps30
    go_wp2
    go_ret
    exact ⟨_, rfl, SAt.nil, ⟨by simp, Or.inl ⟨rfl, rfl⟩⟩, by simp, Below.refl _ _⟩
  · have hf := Lib.hid (RowAt.flat hk hrow)
    have hl := Lib.hid (flat_length hk xs)
    have h1 : Hid (∀ u ∈ xs.flatMap Lk.cells, u.oneCell' = true) := Lib.hid (by
      intro u hu
      obtain ⟨x, _, hx⟩ := List.mem_flatMap.1 hu
      simp [Lk.cells] at hx; rcases hx with rfl | rfl | rfl | rfl | rfl | rfl | rfl | rfl <;> rfl)
    clear hrow hc1 hc2
    generalize hnw : xs.flatMap Lk.cells = news at hf hl h1
    have HNW := Lib.hid hnw
    clear hnw
    go_enter Try.func30, Try.ntmps30
    go_wp2_with (at_builtin; refine wpList_append_own _ rfl _ _ 28 rfl w.heap.size 23 i0 (.agg #[.int .i64 0, .int .i64 0, .int .i64 0, .int .i64 0, .int .i64 0, .int .i64 0, .int .i64 0, .int .i64 0]) 8 64 Try.underlying28 hi hz0 hz1 hz2 rfl (by decide) _ _ _ rfl (World.ownsRow_made w #[] 0 (Nat.le_refl _) (Nat.zero_le _) (by simp)) ⟨b, o, none⟩ xs.length c news rfl ?qc1 ?qc2 ?qc3 ?qc4 ?qc5 ?qc6 ?_)
    case qc1 => exact hl.out
    case qc2 =>
      intro j u hj
      rw [Addr.add_lit]
      exact Lib.cell?_alloc_some _ (hf.out j u hj)
    case qc3 => exact h1.out
    case qc4 => rw [Nat.zero_add]; exact hlen
    case qc5 => rw [Nat.zero_add]; exact hbig
    case qc6 => simp
    intro v' w1 hown hgrow hnil
    go_wp2
    go_ret
    have hown1 : w1.ownsRow w.heap.size 23 8 v' xs.length news := by simpa using hown
    refine ⟨v', rfl, SAt.ofOwn hk rfl (by rw [HNW.out]; exact hown1), hown1, by simp [hnil], ?_⟩
    exact ((Below.refl _ w).alloc (Nat.le_refl _) _).grown hgrow (by simp) (by intro k hk; simp [Value.ownBlock] at hk; omega)


/-- Two nodes as a key. -/
abbrev enc2 (p : Int × Int) : Value := .agg #[.int .i64 p.1, .int .i64 p.2]
theorem klaw2 : KLaw Try.prog 29 enc2 := klaw_wide (by kernel_rfl)
  (fun {x y} h => by
    simp [enc2] at h
    exact Prod.ext h.1 h.2)
  (fun w em x => by cases em <;> kernel_rfl)
  (fun w x y => by
    have h : ∀ d, (Op.equalIn (d + 2) 29 (enc2 x) (enc2 y)).run Try.prog w = .ok (decide (x = y)) w := by
      intro d
      obtain ⟨i0, hi, hz0, hz1, hz2⟩ := info_parts (P := Try.prog) (e := 3) (z := .int .i64 0) (size := 1) (bytes := 8) (by kernel_rfl)
      have hc : Try.prog.cellsOf 3 = 1 := by kernel_rfl
      have ha : ∀ w, (isAgg 3).run Try.prog w = .ok false w := fun w => Try.isAgg3 w
      rw [run_equalIn_array w (d + 1) _ _ Try.underlying29 hi, hc]
      have e1 : x = y ↔ x.1 = y.1 ∧ x.2 = y.2 := ⟨fun h => by rw [h]; exact ⟨rfl, rfl⟩, fun h => Prod.ext h.1 h.2⟩
      by_cases h1 : x.1 = y.1 <;> by_cases h2 : x.2 = y.2 <;> simp [List.range, List.range.loop, Op.eqItems, part, ha, run_equalIn_int w d 3 .i64 .i64 _ _ Try.underlying3, Result.andThen, h1, h2, e1]
    exact h 9998)
  (fun x => by simp [Instr.sameBits])

/-- The index of links by their two nodes. -/
def idxs (ls : List Lk) : List ((Int × Int) × Value) := ls.zipIdx.map fun p => ((p.1.a, p.1.b), .int .i64 (p.2 : Nat))
/-- Block q of w is a map of so many nodes and these links. -/
def TMap (w : World) (q : Nat) (nodes : Int) (ls : List Lk) : Prop :=
  ∃ v r, w.cell? ⟨q, 0, none⟩ = some (.int .i64 nodes) ∧ w.cell? ⟨q, 1, none⟩ = some v ∧ w.cell? ⟨q, 2, none⟩ = some (.map (some r)) ∧ SAt Lk.cells 8 w v ls ∧ MapOf enc2 w r (idxs ls)
theorem TMap.below {w W : World} {q : Nat} {nodes : Int} {ls : List Lk} (h : TMap w q nodes ls) (hb : Below w.heap.size w W) : TMap W q nodes ls := by
  obtain ⟨v, r, h0, h1, h2, h3, h4⟩ := h
  exact ⟨v, r, bl_cell hb h0, bl_cell hb h1, bl_cell hb h2, h3.below hb, h4.below hb⟩

set_option maxHeartbeats 400000 in
theorem none_no (q r : Nat) (w : World) (h : w.cell? ⟨q, 2, none⟩ = some (.map (some r))) :
    Calls Try.prog 33 #[.pointer (some ⟨q, 0, none⟩)] w fun e w' => e = .returned (.bool false) ∧ w = w' := by
  have k1 := fun (w : World) (a : Option Nat) => run_eql_map_nil (P := Try.prog) w 55 _ _ a Try.underlying55
  go_enter Try.func33, Try.ntmps33
  go_wp2
  go_ret
  exact ⟨rfl, rfl⟩
set_option maxHeartbeats 400000 in
theorem none_nil (w : World) :
    Calls Try.prog 33 #[.pointer none] w fun e w' => e = .returned (.bool true) ∧ w = w' := by
  go_enter Try.func33, Try.ntmps33
  go_wp2
  go_ret
  exact ⟨rfl, rfl⟩

theorem zeroI (w : World) : (zeroValue 3).run Try.prog w = .ok (.int .i64 0) w := by kernel_rfl
/-- What a look-up of two nodes gives. -/
def btw (ls : List Lk) (x y : Int) : Option Value := mget (idxs ls) (x, y)
set_option maxHeartbeats 400000 in
theorem between_any (q : Nat) (nodes : Int) (ls : List Lk) (x y : Int) (w : World) (h : TMap w q nodes ls) :
    Calls Try.prog 12 #[.pointer (some ⟨q, 0, none⟩), .int .i64 x, .int .i64 y] w fun e w' => e = .returned (.tuple #[(btw ls x y).getD (.int .i64 0), .bool (btw ls x y).isSome]) ∧ w = w' := by
  obtain ⟨v, r, h0, h1, h2, h3, h4⟩ := h
  have hl := run_look klaw2 Try.underlying55 (zeroI w) h4 (x, y) true
  simp only [enc2, if_true] at hl
  unfold btw
  generalize (mget (idxs ls) (x, y)).getD (.int .i64 0) = rv at hl ⊢
  generalize (mget (idxs ls) (x, y)).isSome = rb at hl ⊢
  clear h3 h4
  go_enter Try.func12, Try.ntmps12
  go_wp2_with (go_at_call 33; refine (none_no q r _ h2).mono ?_; rintro e w' ⟨rfl, rfl⟩)
  go_ret2
  exact ⟨rfl, rfl⟩
set_option maxHeartbeats 400000 in
theorem len_any (q : Nat) (nodes : Int) (ls : List Lk) (w : World) (h : TMap w q nodes ls) :
    Calls Try.prog 14 #[.pointer (some ⟨q, 0, none⟩)] w fun e w' => e = .returned (.int .i64 ls.length) ∧ w = w' := by
  obtain ⟨v, r, h0, h1, h2, h3, h4⟩ := h
  clear h4
  rcases h3 with ⟨rfl, rfl⟩ | ⟨b, o, c, rfl, _, _, _⟩
  all_goals
    go_enter Try.func14, Try.ntmps14
    go_wp2_with (go_at_call 33; refine (none_no q r _ h2).mono ?_; rintro e w' ⟨rfl, rfl⟩)
    go_ret
    exact ⟨rfl, rfl⟩
end Go.Proofs.Ytfifmkjidljeeaa
