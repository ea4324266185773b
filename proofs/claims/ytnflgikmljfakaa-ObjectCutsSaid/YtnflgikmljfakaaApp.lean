/- append and slicing, over slices that read as lists. Over any program. -/
import Derived.Test.YtnflgikmljfakaaSlices
import Derived.Deep.RegionLaw
namespace Go.Proofs.Ytnflgikmljfakaa
open Go.RowKit
set_option linter.unusedVariables false
set_option linter.unusedSimpArgs false
/-- What is to be known of a slice's type and its element's. -/
structure ElT (P : Program) (t e : TypeId) (k bytes : Nat) (z : Value) : Prop where
  ht : P.underlying t = some (.slice e)
  hi : ∃ i, P.info? e = some i ∧ i.zero = some z ∧ i.size = k ∧ i.bytes = bytes
  hz : z.cells.size = k
  hk : 0 < k
theorem ElT.mk' {P : Program} {t e : TypeId} {k bytes : Nat} {z : Value} (ht : P.underlying t = some (.slice e)) (h : (P.info? e).map (fun i => (i.zero, i.size, i.bytes)) = some (some z, k, bytes)) (hz : z.cells.size = k) (hk : 0 < k) : ElT P t e k bytes z := by
  obtain ⟨i, h1, h2, h3, h4⟩ := info_parts h
  exact ⟨ht, ⟨i, h1, h2, h3, h4⟩, hz, hk⟩
section
variable {P : Program} {t e : TypeId} {k bytes : Nat} {z : Value} {α : Type} {enc : α → List Value}
theorem run_sizeOf (T : ElT P t e k bytes z) (w : World) : (sizeOf e).run P w = .ok k w := by
  obtain ⟨i, h1, h2, h3, h4⟩ := T.hi
  simp [sizeOf, typeInfo, h1, h3]
theorem app_run (T : ElT P t e k bytes z) (hk : ∀ x, (enc x).length = k) (h1 : ∀ x, ∀ u ∈ enc x, u.oneCell' = true) (ty : TypeId) {w : World} {base n : Nat} {v src : Value} {xs ys : List α} (hn : n = xs.length) (hown : w.ownsRow base e k v n (xs.flatMap enc)) (hs : SAt enc k w src ys)
    (hb : base ≤ w.heap.size) (h63 : xs.length + ys.length ≤ maxLen) (hby : (xs.length + ys.length) * bytes ≤ 140737488355328) :
    ∃ v' w', (Builtin.append_ #[t, t] ty #[v, src]).run P w = .ok v' w' ∧ w'.ownsRow base e k v' (xs ++ ys).length ((xs ++ ys).flatMap enc) ∧ w.grownBy w' v.ownBlock := by
  obtain ⟨i, hi, hz, hsz, hbs⟩ := T.hi
  subst hn
  rcases hs with ⟨rfl, rfl⟩ | ⟨b, o, c, rfl, hc1, hc2, hrow⟩
  · refine ⟨v, w, ?_, by simpa using hown, World.grownBy.refl w _⟩
    rcases hown.2 with ⟨rfl, h0⟩ | ⟨g, cap, cur, rfl, _, _, hnc, _⟩
    · simp [Builtin.append_, run_underlying T.ht, sizeOf, typeInfo, hi, Builtin.lenOf, Builtin.firstCells]
    · simp [Builtin.append_, run_underlying T.ht, sizeOf, typeInfo, hi, Builtin.lenOf, Builtin.firstCells, hnc, storeCells]
  · obtain ⟨v', w', hrun, r1, r2, -⟩ := run_append_own (P := P) w base t ty e i z k bytes T.ht hi hz hsz hbs T.hz T.hk v xs.length (xs.flatMap enc) hown ⟨b, o, none⟩ ys.length c (ys.flatMap enc) (flat_length hk ys)
      (fun j u hj => by rw [Addr.add_lit]; exact RowAt.flat hk hrow j u hj) (fun u hu => by obtain ⟨x, _, hx⟩ := List.mem_flatMap.1 hu; exact h1 x u hx) h63 hby hb
    exact ⟨v', w', hrun, by rw [List.flatMap_append, List.length_append]; exact r1, r2⟩
theorem own_below {w w' : World} {base n : Nat} {v : Value} {cs : List Value} (hown : w.ownsRow base e k v n cs) (hg : w.grownBy w' v.ownBlock) (hb : base ≤ w.heap.size) : Below base w w' :=
  (Below.refl base w).grown hg hb (fun j hj => (hown.lt j hj).1)
/-- 'append(v, src...)' in a region. -/
theorem step_app {ops : Array Oper} {o : Oper} {a : Act} {K : Act → World → Prop} {Q : Exit → Act → World → Prop} {E : Prop} (hgd : o.guard = none) (s x : Operand)
    (ho : o.op = .call { callee := .builtin .append, args := #[s, x], argTypes := #[t, t] })
    (T : ElT P t e k bytes z) (hk : ∀ x, (enc x).length = k) (h1 : ∀ x, ∀ u ∈ enc x, u.oneCell' = true) {w : World} {base n : Nat} {v src : Value} {xs ys : List α} (hv : a.eval s = v) (hx : a.eval x = src)
    (hn : n = xs.length) (hown : w.ownsRow base e k v n (xs.flatMap enc)) (hs : SAt enc k w src ys)
    (hb : base ≤ w.heap.size) (h63 : xs.length + ys.length ≤ maxLen) (hby : (xs.length + ys.length) * bytes ≤ 140737488355328)
    (h : ∀ v' w', w'.ownsRow base e k v' (xs ++ ys).length ((xs ++ ys).flatMap enc) → Below base w w' → K (a.put o.dst v') w') :
    if Region.wanted o (yielded ops a.tmps) = true then Oper.wp P o a w K Q else E := by
  have hw : Region.wanted o (yielded ops a.tmps) = true := by simp [Region.wanted, hgd]
  rw [if_pos hw]
  obtain ⟨v', w', hrun, r1, r2⟩ := app_run T hk h1 o.type hn hown hs hb h63 hby
  unfold Oper.wp execOp
  simp only [ho, resolve, invoke, builtin, Sem.run_bind, Sem.run_pure, Result.andThen_ok, List.map_toArray, List.map_cons, List.map_nil, hv, hx, hrun]
  exact h v' w' r1 (own_below hown r2 hb)
/-- 'append(v, src...)' in order. -/
theorem wpList_app {ops : Array Oper} {rest : List Oper} {o : Oper} {a : Act} {Q : Exit → Act → World → Prop} (hgd : o.guard = none) (s x : Operand)
    (ho : o.op = .call { callee := .builtin .append, args := #[s, x], argTypes := #[t, t] })
    (T : ElT P t e k bytes z) (hk : ∀ x, (enc x).length = k) (h1 : ∀ x, ∀ u ∈ enc x, u.oneCell' = true) {w : World} {base n : Nat} {v src : Value} {xs ys : List α} (hv : a.eval s = v) (hx : a.eval x = src)
    (hn : n = xs.length) (hown : w.ownsRow base e k v n (xs.flatMap enc)) (hs : SAt enc k w src ys)
    (hb : base ≤ w.heap.size) (h63 : xs.length + ys.length ≤ maxLen) (hby : (xs.length + ys.length) * bytes ≤ 140737488355328)
    (h : ∀ v' w', w'.ownsRow base e k v' (xs ++ ys).length ((xs ++ ys).flatMap enc) → w.grownBy w' v.ownBlock → wpList P ops Q rest (a.put o.dst v') w') : wpList P ops Q (o :: rest) a w := by
  refine wpList_plain hgd fun K' hK' => ?_
  obtain ⟨v', w', hrun, r1, r2⟩ := app_run T hk h1 o.type hn hown hs hb h63 hby
  unfold Oper.wp execOp
  simp only [ho, resolve, invoke, builtin, Sem.run_bind, Sem.run_pure, Result.andThen_ok, List.map_toArray, List.map_cons, List.map_nil, hv, hx, hrun]
  exact hK' _ _ (h v' w' r1 r2)
theorem run_bound (P : Program) (j y : Nat) (hj : j ≤ y) (code : BoundsCode) (W : World) : (Instr.sliceBound (.int .i64 (j : Int)) y code).run P W = .ok j W := by
  simp [Instr.sliceBound, asIntOf, Result.andThen]
  omega
/-- 's[:j]'. -/
theorem run_slice_to (T : ElT P t e k bytes z) {w : World} {v : Value} {xs : List α} (h : SAt enc k w v xs) (j : Nat) (hj : j ≤ xs.length) :
    ∃ v', (∀ W : World, (Instr.slice t v none (some (.int .i64 (j : Int))) none).run P W = .ok v' W) ∧ SAt enc k w v' (xs.take j) := by
  have hsz := fun W => run_sizeOf T W
  rcases h with ⟨rfl, rfl⟩ | ⟨b, o, c, rfl, hc1, hc2, hrow⟩
  · obtain rfl : j = 0 := by simpa using hj
    have hbd := fun code W => run_bound P 0 0 (Nat.le_refl _) code W
    exact ⟨.slice none 0 0, fun W => by simp [Instr.slice, run_underlying T.ht, Instr.sliceBounds, hsz, Result.andThen] at hbd ⊢; simp [hbd], Or.inl ⟨rfl, by simp⟩⟩
  · have hbd := fun code W => run_bound P j c (by omega) code W
    refine ⟨.slice (some ⟨b, o, none⟩) j c, fun W => ?_, Or.inr ⟨b, o, c, by simp [List.length_take, Nat.min_eq_left hj], by simp [List.length_take]; omega, hc2, hrow.take j⟩⟩
    simp [Instr.slice, run_underlying T.ht, Instr.sliceBounds, hsz, Result.andThen, hbd, Addr.add]
/-- 's[j:]'. -/
theorem run_slice_from (T : ElT P t e k bytes z) {w : World} {v : Value} {xs : List α} (h : SAt enc k w v xs) (j : Nat) (hj : j ≤ xs.length) :
    ∃ v', (∀ W : World, (Instr.slice t v (some (.int .i64 (j : Int))) none none).run P W = .ok v' W) ∧ SAt enc k w v' (xs.drop j) := by
  have hsz := fun W => run_sizeOf T W
  rcases h with ⟨rfl, rfl⟩ | ⟨b, o, c, rfl, hc1, hc2, hrow⟩
  · obtain rfl : j = 0 := by simpa using hj
    have hbd := fun code W => run_bound P 0 0 (Nat.le_refl _) code W
    exact ⟨.slice none 0 0, fun W => by simp [Instr.slice, run_underlying T.ht, Instr.sliceBounds, hsz, Result.andThen] at hbd ⊢; simp [hbd], Or.inl ⟨rfl, by simp⟩⟩
  · have hbd := fun code W => run_bound P j xs.length hj code W
    by_cases hcj : c = j
    · subst hcj
      have hx : xs.length = c := by omega
      refine ⟨.slice (some ⟨b, o, none⟩) 0 0, fun W => ?_, Or.inr ⟨b, o, 0, by simp [hx], by simp; omega, by simp, ?_⟩⟩
      · rw [hx] at hbd
        simp [Instr.slice, run_underlying T.ht, Instr.sliceBounds, hsz, Result.andThen, hx, hbd]
      · rw [List.drop_of_length_le (by omega)]
        exact fun j x hj => by simp at hj
    · refine ⟨.slice (some ⟨b, o + j * k, none⟩) (xs.length - j) (c - j), fun W => ?_, Or.inr ⟨b, o + j * k, c - j, by simp, by simp; omega, by omega, hrow.drop j⟩⟩
      simp [Instr.slice, run_underlying T.ht, Instr.sliceBounds, hsz, Result.andThen, hbd, hcj, Addr.add]
end
end Go.Proofs.Ytnflgikmljfakaa
