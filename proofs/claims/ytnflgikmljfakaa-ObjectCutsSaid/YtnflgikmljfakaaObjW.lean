/- Object: the document's Parse. -/
import Derived.Test.YtnflgikmljfakaaObjV
import Derived.Test.YtnflgikmljfakaaTake
import Derived.Deep.QuietTactic
namespace Go.Proofs.Ytnflgikmljfakaa
open Go Go.RowKit Go.Shelf
set_option linter.unusedVariables false
set_option linter.unusedSimpArgs false
attribute [local go_sem] Oper.semAt_some
/-- What the document's Parse answers. -/
def RParseR (bs : List Int) (w : World) (e : Ending) (w' : World) : Prop :=
  Below w.heap.size w w' ∧ ((∃ (qs : List Ob) (V : Value), parseO bs = some (qs.map Ob.key) ∧ e = .returned (.tuple #[V, .bool true]) ∧ w'.ownsRow w.heap.size 32 3 V qs.length (qs.flatMap Ob.cells) ∧ ∀ q ∈ qs, WsIn w' q.v q.ws) ∨
    (parseO bs = none ∧ e = .returned (.tuple #[.slice none 0 0, .bool false])))
section
variable {P : Program} {t e : TypeId} {k bytes : Nat} {z : Value} {α : Type} {enc : α → List Value}
theorem app_runI (T : ElT P t e k bytes z) (hk : ∀ x, (enc x).length = k) (ty : TypeId) {w : World} {base n : Nat} {v src : Value} {xs ys : List α} (hn : n = xs.length) (hown : w.ownsRow base e k v n (xs.flatMap enc)) (hs : SAt enc k w src ys)
    (hb : base ≤ w.heap.size) (h1 : ∀ x ∈ ys, ∀ u ∈ enc x, u.oneCell' = true) (h63 : xs.length + ys.length ≤ maxLen) (hby : (xs.length + ys.length) * bytes ≤ 140737488355328) :
    ∃ v' w', (Builtin.append_ #[t, t] ty #[v, src]).run P w = .ok v' w' ∧ w'.ownsRow base e k v' (xs ++ ys).length ((xs ++ ys).flatMap enc) ∧ w.grownBy w' v.ownBlock := by
  obtain ⟨i, hi, hz, hsz, hbs⟩ := T.hi
  subst hn
  rcases hs with ⟨rfl, rfl⟩ | ⟨b, o, c, rfl, hc1, hc2, hrow⟩
  · refine ⟨v, w, ?_, by simpa using hown, World.grownBy.refl w _⟩
    rcases hown.2 with ⟨rfl, h0⟩ | ⟨g, cap, cur, rfl, _, _, hnc, _⟩
    · simp [Builtin.append_, run_underlying T.ht, sizeOf, typeInfo, hi, Builtin.lenOf, Builtin.firstCells]
    · simp [Builtin.append_, run_underlying T.ht, sizeOf, typeInfo, hi, Builtin.lenOf, Builtin.firstCells, hnc, storeCells]
  · obtain ⟨v', w', hrun, r1, r2, -⟩ := run_append_own (P := P) w base t ty e i z k bytes T.ht hi hz hsz hbs T.hz T.hk v xs.length (xs.flatMap enc) hown ⟨b, o, none⟩ ys.length c (ys.flatMap enc) (flat_length hk ys)
      (fun j u hj => by rw [Addr.add_lit]; exact RowAt.flat hk hrow j u hj) (fun u hu => by obtain ⟨x, hm, hx⟩ := List.mem_flatMap.1 hu; exact h1 x hm u hx) h63 hby hb
    exact ⟨v', w', hrun, by rw [List.flatMap_append, List.length_append]; exact r1, r2⟩
/-- 'append(v, src...)' in order. -/
theorem wpList_appI {ops : Array Oper} {rest : List Oper} {o : Oper} {a : Act} {Q : Exit → Act → World → Prop} (hgd : o.guard = none) (s x : Operand)
    (ho : o.op = .call { callee := .builtin .append, args := #[s, x], argTypes := #[t, t] })
    (T : ElT P t e k bytes z) (hk : ∀ x, (enc x).length = k) {w : World} {base n : Nat} {v src : Value} {xs ys : List α} (hv : a.eval s = v) (hx : a.eval x = src)
    (hn : n = xs.length) (hown : w.ownsRow base e k v n (xs.flatMap enc)) (hs : SAt enc k w src ys)
    (hb : base ≤ w.heap.size) (h1 : ∀ x ∈ ys, ∀ u ∈ enc x, u.oneCell' = true) (h63 : xs.length + ys.length ≤ maxLen) (hby : (xs.length + ys.length) * bytes ≤ 140737488355328)
    (h : ∀ v' w', w'.ownsRow base e k v' (xs ++ ys).length ((xs ++ ys).flatMap enc) → w.grownBy w' v.ownBlock → wpList P ops Q rest (a.put o.dst v') w') : wpList P ops Q (o :: rest) a w := by
  refine wpList_plain hgd fun K' hK' => ?_
  obtain ⟨v', w', hrun, r1, r2⟩ := app_runI T hk o.type hn hown hs hb h1 h63 hby
  unfold Oper.wp execOp
  simp only [ho, resolve, invoke, builtin, Sem.run_bind, Sem.run_pure, Result.andThen_ok, List.map_toArray, List.map_cons, List.map_nil, hv, hx, hrun]
  exact hK' _ _ (h v' w' r1 r2)
end
theorem num_two {bs : List Int} {m : Nat} {x y : Int} (hx : bs[m]? = some x) (hy : bs[m + 1]? = some y) : numOf ((bs.drop m).take 2) 0 = 256 * x + y := by
  have e : (bs.drop m).take 2 = [x, y] := by
    rw [List.drop_eq_getElem_cons (List.getElem?_eq_some_iff.1 hx).1, List.drop_eq_getElem_cons (List.getElem?_eq_some_iff.1 hy).1, (List.getElem?_eq_some_iff.1 hx).2, (List.getElem?_eq_some_iff.1 hy).2]
    rfl
  rw [e]
  simp only [numOf]
  omega
theorem num_one {bs : List Int} {m : Nat} {x : Int} (hx : bs[m]? = some x) : numOf ((bs.drop m).take 1) 0 = x := by
  have e : (bs.drop m).take 1 = [x] := by
    rw [List.drop_eq_getElem_cons (List.getElem?_eq_some_iff.1 hx).1, (List.getElem?_eq_some_iff.1 hx).2]
    rfl
  rw [e]
  simp only [numOf]
  omega
theorem num_four {bs : List Int} {m : Nat} {a b c d : Int} (h0 : bs[m]? = some a) (h1 : bs[m + 1]? = some b) (h2 : bs[m + 1 + 1]? = some c) (h3 : bs[m + 1 + 1 + 1]? = some d) : numOf ((bs.drop m).take 4) 0 = 16777216 * a + 65536 * b + 256 * c + d := by
  have e : (bs.drop m).take 4 = [a, b, c, d] := by
    rw [List.drop_eq_getElem_cons (List.getElem?_eq_some_iff.1 h0).1, List.drop_eq_getElem_cons (List.getElem?_eq_some_iff.1 h1).1, List.drop_eq_getElem_cons (List.getElem?_eq_some_iff.1 h2).1, List.drop_eq_getElem_cons (List.getElem?_eq_some_iff.1 h3).1, (List.getElem?_eq_some_iff.1 h0).2, (List.getElem?_eq_some_iff.1 h1).2, (List.getElem?_eq_some_iff.1 h2).2, (List.getElem?_eq_some_iff.1 h3).2]
    rfl
  rw [e]
  simp only [numOf]
  omega
theorem byte_at {w : World} {A : Option Addr} {c : Nat} {bs : List Int} (hs : SAt yC 1 w (.slice A bs.length c) bs) (h0 : 0 < bs.length) : ∃ b o, A = some ⟨b, o, none⟩ ∧ ∀ X, Below w.heap.size w X → ∀ (j : Nat) (y : Int), bs[j]? = some y → X.cell? ⟨b, o + j, none⟩ = some (.int .u8 y) := by
  rcases hs with ⟨h1, h2⟩ | ⟨b, o, c', h1, _, _, h4⟩
  · subst h2; simp at h0
  · simp only [Value.slice.injEq] at h1
    refine ⟨b, o, h1.1, fun X hX j y hj => bl_cell hX ?_⟩
    have := h4 j y hj 0 _ rfl
    simpa using this
set_option maxRecDepth 100000 in
set_option maxHeartbeats 2000000 in
theorem rparse_any (A : Option Addr) (c : Nat) (bs : List Int) (w : World) (hs : SAt yC 1 w (.slice A bs.length c) bs) (hin : BytesIn bs) (hlen : bs.length ≤ 65536) :
    Calls Try.prog 13 #[.slice A bs.length c] w (RParseR bs w) := by
  obtain ⟨Q, hQ⟩ : ∃ Q : Ending → World → Prop, Q = RParseR bs w := ⟨_, rfl⟩
  rw [← hQ]
  have HQ := Lib.hid hQ
  have HIN := Lib.hid hin
  have HS := Lib.hid hs
  clear hQ hin hs
  go_enter Try.func13, Try.ntmps13
  go_wp2_with fail
  go_loopg [4, 5] (bs.length + 1) (fun gg s4 s5 wr => ∃ (m : Nat) (pre : List Ob), m ≤ bs.length ∧ bs.length - m ≤ gg ∧ s5 = .int .i64 m ∧ Aside (wr.ownsRow w.heap.size 32 3 s4 pre.length (pre.flatMap Ob.cells)) ∧ Aside (∀ q ∈ pre, WsIn wr q.v q.ws) ∧ Aside (Below w.heap.size w wr) ∧ pre.length ≤ 40 ∧ Aside (pre.map Ob.key ++ (rd (bs.drop m)).1 = (rd bs).1 ∧ (rd (bs.drop m)).2 = (rd bs).2))
  case atStart => exact ⟨0, [], by omega, by omega, rfl, World.ownsRow_nil _ _ _ _, (fun q hq => (by cases hq)), Below.refl _ _, by simp, rfl, rfl⟩
  case round =>
    obtain ⟨m, pre, hm, hgg, rfl, HO, HWS, HB, hpl, HRD⟩ := hrel
    obtain ⟨A4, c4, rfl⟩ := own_form HO.out
    by_cases hlt : m < bs.length
    · have hltz : (m : Int) < (bs.length : Int) := by omega
      obtain ⟨b, o, rfl, hby⟩ := byte_at HS.out (by omega)
      have HBY := Lib.hid hby
      clear hby
      have HNO : Hid (∀ X, Below wr.heap.size wr X → stepO (bs.drop m) = none → Q (.returned (.tuple #[.slice none 0 0, .bool false])) X) := Lib.hid fun X hX hn => by
        rw [HQ.out]
        have h9 := HRD.out.2
        rw [rd_none (by rw [List.length_drop]; omega) hn] at h9
        exact ⟨HB.out.trans (hX.mono HB.out.size), .inr ⟨by unfold parseO; rw [if_neg (by rw [← h9]; simp)], rfl⟩⟩
      by_cases h40 : pre.length = 40
      · have h40z : (((pre.length : Nat) : Int) == 40) = true := by rw [h40]; rfl
        have hfin : Q (.returned (.tuple #[.slice none 0 0, .bool false])) wr := by
          rw [HQ.out]
          refine ⟨HB.out, .inr ⟨?_, rfl⟩⟩
          unfold parseO
          have h9 := HRD.out
          rw [if_neg]
          rintro ⟨h1, h2⟩
          cases hst : stepO (bs.drop m) with
          | none =>
            rw [rd_none (by rw [List.length_drop]; omega) hst] at h9
            rw [← h9.2] at h1
            cases h1
          | some p =>
            obtain ⟨q, rest⟩ := p
            rw [rd_some (by rw [List.length_drop]; omega) hst] at h9
            rw [← h9.1] at h2
            simp at h2
            omega
        have HF := Lib.hid hfin
        clear hfin h40
        go_wp2_with fail
        exact HF.out
      · have h40z : (((pre.length : Nat) : Int) == 40) = false := beq_eq_false_iff_ne.2 (by omega)
        by_cases h8 : bs.length - m < 8
        · have h8z : ((bs.length : Nat) : Int) - ((m : Nat) : Int) < 8 := by omega
          have HF : Hid (Q (.returned (.tuple #[.slice none 0 0, .bool false])) wr) := Lib.hid (HNO.out _ (Below.refl _ _) (by
            unfold stepO
            split
            · rfl
            · rw [if_neg]
              rw [List.length_drop]
              omega))
          clear h8
          go_wp2_with fail
          exact HF.out
        · have h8z : ¬ ((bs.length : Nat) : Int) - ((m : Nat) : Int) < 8 := by omega
          have HP40 : Hid (pre.length < 40) := Lib.hid (by omega)
          obtain ⟨x, hgx⟩ : ∃ x, bs[m]? = some x := ⟨_, List.getElem?_eq_getElem (by omega)⟩
          obtain ⟨y, hgy⟩ : ∃ y, bs[m + 1]? = some y := ⟨_, List.getElem?_eq_getElem (by omega)⟩
          obtain ⟨hx0, hx1⟩ := HIN.out x (List.mem_of_getElem? hgx)
          obtain ⟨hy0, hy1⟩ := HIN.out y (List.mem_of_getElem? hgy)
          have hcx := HBY.out wr HB.out m x hgx
          have hcy := HBY.out wr HB.out (m + 1) y hgy
          have hcy2 := hcy
          rw [← Nat.add_assoc] at hcy2
          obtain ⟨L, hL⟩ : ∃ L, L = 256 * x + y := ⟨_, rfl⟩
          have hLn : numOf ((bs.drop m).take 2) 0 = L := by rw [num_two hgx hgy, hL]
          have hL0 : 0 ≤ L := by omega
          have hL1 : L < 65536 := by omega
          have HST : Hid (¬ (L % 4 = 0 ∧ 8 ≤ L ∧ L ≤ 260 ∧ L ≤ (bs.length - m : Nat)) → ∀ X, Below wr.heap.size wr X → Q (.returned (.tuple #[.slice none 0 0, .bool false])) X) := Lib.hid fun hn X hX => HNO.out X hX (by
            unfold stepO
            rw [hLn, List.length_drop, if_neg hn]
            simp)
          have HLN := Lib.hid hLn
          have HLX := Lib.hid hL
          have hm1 : m + 1 < bs.length := by omega
          clear hLn hL hgx hgy h8 h40
          go_upto_region 6 with fail
          go_quiet (fail)
          go_simp
          have hbq := bl_drewN (Below.refl wr.heap.size wr) nq
          have hoq : (wr.drewN nq).ownsRow w.heap.size 32 3 (.slice A4 pre.length c4) pre.length (pre.flatMap Ob.cells) := HO.out
          have hszq : (wr.drewN nq).heap.size = wr.heap.size := rfl
          generalize (wr.drewN nq) = wq at hbq hoq hszq ⊢
          rw [← HLX.out]
          have HBQ := Lib.hid hbq
          have HOQ := Lib.hid hoq
          have HSZ := Lib.hid hszq
          clear hbq hoq hszq hcx hcy hcy2 hx0 hx1 hy0 hy1 HO
          have hcase : L % 4 ≠ 0 ∨ (L % 4 = 0 ∧ (L < 8 ∨ (8 ≤ L ∧ (260 < L ∨ (L ≤ 260 ∧ ((bs.length : Int) - (m : Int) < L ∨ L ≤ (bs.length : Int) - (m : Int))))))) := by omega
          rcases hcase with h1 | ⟨h1, h2 | ⟨h2, h3 | ⟨h3, h4 | h4⟩⟩⟩
          · have h1z : ¬ L % 4 = 0 := h1
            have HF := Lib.hid (HST.out (by omega) wq HBQ.out)
            go_wp2_with fail
            all_goals first | exact HF.out | (exfalso; omega)
          · have h1z : (L % 4 == 0) = true := by simpa using h1
            have HF := Lib.hid (HST.out (by omega) wq HBQ.out)
            go_wp2_with fail
            all_goals first | exact HF.out | (exfalso; omega)
          · have h1z : (L % 4 == 0) = true := by simpa using h1
            have h2z : ¬ L < 8 := by omega
            have HF := Lib.hid (HST.out (by omega) wq HBQ.out)
            go_wp2_with fail
            all_goals first | exact HF.out | (exfalso; omega)
          · have h1z : (L % 4 == 0) = true := by simpa using h1
            have h2z : ¬ L < 8 := by omega
            have h3z : ¬ 260 < L := by omega
            have HF := Lib.hid (HST.out (by omega) wq HBQ.out)
            go_wp2_with fail
            all_goals first | exact HF.out | (exfalso; omega)
          · have h1z : (L % 4 == 0) = true := by simpa using h1
            have h2z : ¬ L < 8 := by omega
            have h3z : ¬ 260 < L := by omega
            have h4z : ¬ (bs.length : Int) - (m : Int) < L := by omega
            have HKL : Hid (∃ K : Nat, L = 4 * ((K : Int) + 1) ∧ 1 ≤ K ∧ K ≤ 64) := Lib.hid ⟨(L / 4 - 1).toNat, by omega, by omega, by omega⟩
            obtain ⟨m2, hm2⟩ : ∃ m2, m2 = m + 2 := ⟨_, rfl⟩
            obtain ⟨m3, hm3'⟩ : ∃ m3, m3 = m + 3 := ⟨_, rfl⟩
            obtain ⟨u, hgu⟩ : ∃ u, bs[m2]? = some u := ⟨_, List.getElem?_eq_getElem (by omega)⟩
            obtain ⟨t, hgt⟩ : ∃ t, bs[m3]? = some t := ⟨_, List.getElem?_eq_getElem (by omega)⟩
            have hw2 : IntKind.i64.wrap ((m : Int) + 2) = (m2 : Int) := by rw [IntWalk.i64_in _ (by omega)]; omega
            have hw3 : IntKind.i64.wrap ((m : Int) + 3) = (m3 : Int) := by rw [IntWalk.i64_in _ (by omega)]; omega
            have hl2 : (m2 : Int) < (bs.length : Int) := by omega
            have hl3 : (m3 : Int) < (bs.length : Int) := by omega
            have hm3 : m + 3 < bs.length := by omega
            have hwu : IntKind.i64.wrap u = u := by have := HIN.out u (List.mem_of_getElem? hgu); rw [IntWalk.i64_in _ (by omega)]
            have hwt : IntKind.i64.wrap t = t := by have := HIN.out t (List.mem_of_getElem? hgt); rw [IntWalk.i64_in _ (by omega)]
            have HU := Lib.hid (And.intro hm2 hgu)
            have HT := Lib.hid (And.intro hm3' hgt)
            have HBYQ : Hid (∀ X, Below wq.heap.size wq X → ∀ (j : Nat) (y : Int), bs[j]? = some y → X.cell? ⟨b, o + j, none⟩ = some (.int .u8 y)) := Lib.hid fun X hX => HBY.out X (HB.out.trans ((bl_then HBQ.out hX).mono HB.out.size))
            have HSB := Lib.hid (show ∀ X, Below wq.heap.size wq X → (fun W' : World => W'.cell? ⟨b, o + m2, none⟩ = some (.int .u8 u) ∧ W'.cell? ⟨b, o + m3, none⟩ = some (.int .u8 t)) X from fun X hX => ⟨HBYQ.out X hX _ _ hgu, HBYQ.out X hX _ _ hgt⟩)
            clear hgu hgt hm2 hm3'
            go_upto_region 9 with fail
            refine wp_region_held_drew (S := (fun W' : World => W'.cell? ⟨b, o + m2, none⟩ = some (.int .u8 u) ∧ W'.cell? ⟨b, o + m3, none⟩ = some (.int .u8 t))) (by kernel_rfl) (HSB.out _ (bl_drew (Below.refl _ _))) (fun hHeld => ?_)
            refine take_yes (i := 0) (v := ?_) rfl (by kernel_rfl) (by kernel_rfl) (by kernel_rfl) (fun _ _ _ h => h) (by kernel_rfl) (by assumption) ?_ ?_
            rotate_left 1
            · (intro w hSw; (try dsimp only at hSw); go_simp; try with_reducible rfl)
            try simp only [Act.put, List.setIfInBounds_toArray, List.set_cons_zero, List.set_cons_succ]

            refine take_yes (i := 1) (v := ?_) rfl (by kernel_rfl) (by kernel_rfl) (by kernel_rfl) (fun _ _ _ h => h) (by kernel_rfl) (by assumption) ?_ ?_
            rotate_left 1
            · (intro w hSw; (try dsimp only at hSw); go_simp; try with_reducible rfl)
            try simp only [Act.put, List.setIfInBounds_toArray, List.set_cons_zero, List.set_cons_succ]

            refine take_yes (i := 2) (v := ?_) rfl (by kernel_rfl) (by kernel_rfl) (by kernel_rfl) (fun _ _ _ h => h) (by kernel_rfl) (by assumption) ?_ ?_
            rotate_left 1
            · (intro w hSw; (try dsimp only at hSw); go_simp; try with_reducible rfl)
            try simp only [Act.put, List.setIfInBounds_toArray, List.set_cons_zero, List.set_cons_succ]

            refine take_yes (i := 3) (v := ?_) rfl (by kernel_rfl) (by kernel_rfl) (by kernel_rfl) (fun _ _ _ h => h) (by kernel_rfl) (by assumption) ?_ ?_
            rotate_left 1
            · (intro w hSw; (try dsimp only at hSw); go_simp; try with_reducible rfl)
            try simp only [Act.put, List.setIfInBounds_toArray, List.set_cons_zero, List.set_cons_succ]

            refine take_yes (i := 4) (v := ?_) rfl (by kernel_rfl) (by kernel_rfl) (by kernel_rfl) (fun _ _ _ h => h) (by kernel_rfl) (by assumption) ?_ ?_
            rotate_left 1
            · (intro w hSw; (try dsimp only at hSw); go_simp; try with_reducible rfl)
            try simp only [Act.put, List.setIfInBounds_toArray, List.set_cons_zero, List.set_cons_succ]

            refine take_yes (i := 5) (v := ?_) rfl (by kernel_rfl) (by kernel_rfl) (by kernel_rfl) (fun _ _ _ h => h) (by kernel_rfl) (by assumption) ?_ ?_
            rotate_left 1
            · (intro w hSw; (try dsimp only at hSw); go_simp; try with_reducible rfl)
            try simp only [Act.put, List.setIfInBounds_toArray, List.set_cons_zero, List.set_cons_succ]

            refine take_yes (i := 6) (v := ?_) rfl (by kernel_rfl) (by kernel_rfl) (by kernel_rfl) (fun _ _ _ h => h) (by kernel_rfl) (by assumption) ?_ ?_
            rotate_left 1
            · (intro w hSw; (try dsimp only at hSw); go_simp; try with_reducible rfl)
            try simp only [Act.put, List.setIfInBounds_toArray, List.set_cons_zero, List.set_cons_succ]

            refine take_yes (i := 7) (v := ?_) rfl (by kernel_rfl) (by kernel_rfl) (by kernel_rfl) (fun _ _ _ h => h) (by kernel_rfl) (by assumption) ?_ ?_
            rotate_left 1
            · (intro w hSw; (try dsimp only at hSw); go_simp; try with_reducible rfl)
            try simp only [Act.put, List.setIfInBounds_toArray, List.set_cons_zero, List.set_cons_succ]

            refine take_yes (i := 8) (v := ?_) rfl (by kernel_rfl) (by kernel_rfl) (by kernel_rfl) (fun _ _ _ h => h) (by kernel_rfl) (by assumption) ?_ ?_
            rotate_left 1
            · (intro w hSw; (try dsimp only at hSw); go_simp; try with_reducible rfl)
            try simp only [Act.put, List.setIfInBounds_toArray, List.set_cons_zero, List.set_cons_succ]

            refine take_yes (i := 9) (v := ?_) rfl (by kernel_rfl) (by kernel_rfl) (by kernel_rfl) (fun _ _ _ h => h) (by kernel_rfl) (by assumption) ?_ ?_
            rotate_left 1
            · (intro w hSw; (try dsimp only at hSw); go_simp; try with_reducible rfl)
            try simp only [Act.put, List.setIfInBounds_toArray, List.set_cons_zero, List.set_cons_succ]

            refine take_yes (i := 10) (v := ?_) rfl (by kernel_rfl) (by kernel_rfl) (by kernel_rfl) (fun _ _ _ h => h) (by kernel_rfl) (by assumption) ?_ ?_
            rotate_left 1
            · (intro w hSw; (try dsimp only at hSw); go_simp; try with_reducible rfl)
            try simp only [Act.put, List.setIfInBounds_toArray, List.set_cons_zero, List.set_cons_succ]

            refine take_yes (i := 11) (v := ?_) rfl (by kernel_rfl) (by kernel_rfl) (by kernel_rfl) (fun _ _ _ h => h) (by kernel_rfl) (by assumption) ?_ ?_
            rotate_left 1
            · (intro w hSw; (try dsimp only at hSw); go_simp; try with_reducible rfl)
            try simp only [Act.put, List.setIfInBounds_toArray, List.set_cons_zero, List.set_cons_succ]

            refine take_yes (i := 12) (v := ?_) rfl (by kernel_rfl) (by kernel_rfl) (by kernel_rfl) (fun _ _ _ h => h) (by kernel_rfl) (by assumption) ?_ ?_
            rotate_left 1
            · (intro w hSw; (try dsimp only at hSw); go_simp; try with_reducible rfl)
            try simp only [Act.put, List.setIfInBounds_toArray, List.set_cons_zero, List.set_cons_succ]

            refine wpAnyH_ready (rs := [13]) (by kernel_rfl) (by simp) ?_
            refine cons_drop (i := 13) rfl (fun K hK => ?_) AllReadyH.nil
            go_simp
            refine hK.out _ _ (HSB.out _ (bl_alloc (bl_drew (Below.refl _ _)) _)) (fun hHeld2 => ?_)
            clear hK K hHeld
            try simp only [Act.put, List.setIfInBounds_toArray, List.set_cons_zero, List.set_cons_succ]
            have hw5 : (wq.alloc (.cells #[.int .i64 0, .int .i64 0, .slice none 0 0] 32)).drew.heap[wq.heap.size]? = some (.cells #[.int .i64 0, .int .i64 0, .slice none 0 0] 32 (0, 0)) := new_block _ _
            have hb5 : Below wq.heap.size wq (wq.alloc (.cells #[.int .i64 0, .int .i64 0, .slice none 0 0] 32)).drew := bl_drew (bl_alloc (Below.refl _ _) _)
            have hz5 : (wq.alloc (.cells #[.int .i64 0, .int .i64 0, .slice none 0 0] 32)).drew.heap.size = wq.heap.size + 1 := by rw [World.size_drew]; simp
            generalize (wq.alloc (.cells #[.int .i64 0, .int .i64 0, .slice none 0 0] 32)).drew = w5 at hw5 hb5 hz5 hHeld2 ⊢
            obtain ⟨⟨f0, f1, f2⟩, f3, f4, f5⟩ := cells3 hw5
            obtain ⟨w6, hw6, -, ho6, hb6, hk6⟩ := threew (.int .i64 u) (.int .i64 t) (.slice none 0 0) (Nat.le_refl wq.heap.size) hw5
            have hbq6 : Below wq.heap.size wq w6 := hb5.trans hb6
            refine wpAnyH_ready (rs := [14]) (by kernel_rfl) (by simp) ?_
            refine cons_drop (i := 14) rfl (fun K hK => ?_) AllReadyH.nil
            go_simp
            try rw [hw6]
            refine hK.out _ _ (HSB.out _ hbq6) (fun hHeld3 => ?_)
            clear hK K hHeld2
            try simp only [Act.put, List.setIfInBounds_toArray, List.set_cons_zero, List.set_cons_succ]
            have HZ6 : Hid (w6.heap.size = wq.heap.size + 1) := Lib.hid (by rw [← hw6]; simp [World.setCell]; exact hz5)
            have HK6 := Lib.hid hk6
            have HB6 := Lib.hid hbq6
            obtain ⟨g6, hg6⟩ : ∃ g6, g6 = wq.heap.size := ⟨_, rfl⟩
            rw [← hg6] at HZ6 HK6 HB6 ⊢
            have HG6 := Lib.hid hg6
            clear hw5 hb5 hz5 hw6 ho6 hb6 hk6 hbq6 hg6 f0 f1 f2 f3 f4 f5 hHeld3
            refine wpAnyH_done (by kernel_rfl) ?_ _
            obtain ⟨K, hK, hK1, hK64⟩ := HKL.out
            obtain ⟨p0, hp0⟩ : ∃ p0, p0 = m + 4 := ⟨_, rfl⟩
            obtain ⟨e0, he0⟩ : ∃ e0, e0 = p0 + 4 * K := ⟨_, rfl⟩
            have hw4 : IntKind.i64.wrap ((m : Int) + 4) = (p0 : Int) := by rw [IntWalk.i64_in _ (by omega)]; omega
            have hwe : IntKind.i64.wrap ((m : Int) + L) = (e0 : Int) := by rw [IntWalk.i64_in _ (by omega)]; omega
            have heb : e0 ≤ bs.length := by omega
            have HPE := Lib.hid (And.intro hp0 (And.intro he0 hK))
            have HMM := Lib.hid (And.intro h1 (And.intro h2 (And.intro h3 (And.intro h4 hm3))))
            clear hp0 he0 hK h1 h2 h3 h4 hm3 h1z h2z h3z h4z hw2 hw3 hl2 hl3 h8z h40z
            clear HSB hm1 hwu hwt
            go_wp2_with fail
            obtain ⟨wa, hwa⟩ : ∃ wa, wa = wr := ⟨_, rfl⟩
            subst hwa
            obtain ⟨bw, hbw⟩ : ∃ bw, bw = bs.drop (m + 4) := ⟨_, rfl⟩
            have HBW := Lib.hid hbw
            clear hbw
            go_loopg [8] (K + 1) (fun gg s8 wr => ∃ (j p : Nat), j ≤ K ∧ K - j ≤ gg ∧ s8 = .int .i64 p ∧ Aside (p = p0 + 4 * j) ∧ Aside (∃ v, wr.heap[g6]? = some (.cells #[.int .i64 u, .int .i64 t, v] 32 (0, 0)) ∧ wr.ownsRow (g6 + 1) 2 1 v (wordsOf j bw).length ((wordsOf j bw).flatMap iC)) ∧ Aside (Below g6 w6 wr) ∧ Aside (g6 + 1 ≤ wr.heap.size))
            case atStart => exact ⟨0, p0, by omega, by omega, rfl, (show p0 = p0 + 4 * 0 by omega), ⟨_, HK6.out, World.ownsRow_nil _ _ _ _⟩, Below.refl _ _, (show g6 + 1 ≤ w6.heap.size by have := HZ6.out; omega)⟩
            case round =>
              obtain ⟨j, p, hj, hgj, rfl, HPJ, HOJ, HBJ, HZJ⟩ := hrel
              obtain ⟨v, hv6, ho6⟩ := HOJ.out
              obtain ⟨Av, cv, hvv⟩ := own_form ho6
              obtain ⟨N, hN⟩ : ∃ N, N = (wordsOf j bw).length := ⟨_, rfl⟩
              rw [← hN] at hvv ho6
              subst hvv
              have HN := Lib.hid hN
              have HN2 : Hid (N = j) := Lib.hid (by rw [hN, wordsOf_len])
              have HO6 := Lib.hid ho6
              have HV6 := Lib.hid hv6
              clear hN ho6 hv6 HOJ
              have HBG : Hid (∀ X, Below g6 w6 X → w6.heap.size ≤ X.heap.size → ∀ (j : Nat) (y : Int), bs[j]? = some y → X.cell? ⟨b, o + j, none⟩ = some (.int .u8 y)) := Lib.hid fun X hX _ => HBYQ.out X (by rw [← HG6.out]; exact HB6.out.trans hX)
              by_cases hjl : j < K
              · have hpe : (p : Int) < (e0 : Int) := by have := HPE.out; have := HPJ.out; omega
                have hp3 : p + 3 < bs.length := by have := HPE.out; have := HPJ.out; omega
                obtain ⟨p1, hp1⟩ : ∃ p1, p1 = p + 1 := ⟨_, rfl⟩
                obtain ⟨p2, hp2⟩ : ∃ p2, p2 = p + 2 := ⟨_, rfl⟩
                obtain ⟨p3, hp3'⟩ : ∃ p3, p3 = p + 3 := ⟨_, rfl⟩
                obtain ⟨y0, hy0⟩ : ∃ y, bs[p]? = some y := ⟨_, List.getElem?_eq_getElem (by omega)⟩
                obtain ⟨y1, hy1⟩ : ∃ y, bs[p1]? = some y := ⟨_, List.getElem?_eq_getElem (by omega)⟩
                obtain ⟨y2, hy2⟩ : ∃ y, bs[p2]? = some y := ⟨_, List.getElem?_eq_getElem (by omega)⟩
                obtain ⟨y3, hy3⟩ : ∃ y, bs[p3]? = some y := ⟨_, List.getElem?_eq_getElem (by omega)⟩
                have r0 := HIN.out y0 (List.mem_of_getElem? hy0)
                have r1 := HIN.out y1 (List.mem_of_getElem? hy1)
                have r2 := HIN.out y2 (List.mem_of_getElem? hy2)
                have r3 := HIN.out y3 (List.mem_of_getElem? hy3)
                have k1 : IntKind.i64.wrap ((p : Int) + 1) = (p1 : Int) := by rw [IntWalk.i64_in _ (by omega)]; omega
                have k2 : IntKind.i64.wrap ((p : Int) + 2) = (p2 : Int) := by rw [IntWalk.i64_in _ (by omega)]; omega
                have k3 : IntKind.i64.wrap ((p : Int) + 3) = (p3 : Int) := by rw [IntWalk.i64_in _ (by omega)]; omega
                have k4 : IntKind.i64.wrap ((p : Int) + 4) = ((p + 4 : Nat) : Int) := by rw [IntWalk.i64_in _ (by omega)]; omega
                have q0 : (p : Int) < (bs.length : Int) := by omega
                have q1 : (p1 : Int) < (bs.length : Int) := by omega
                have q2 : (p2 : Int) < (bs.length : Int) := by omega
                have q3 : (p3 : Int) < (bs.length : Int) := by omega
                have u0 : IntKind.i64.wrap y0 = y0 := by rw [IntWalk.i64_in _ (by omega)]
                have u1 : IntKind.i64.wrap y1 = y1 := by rw [IntWalk.i64_in _ (by omega)]
                have u2' : IntKind.i64.wrap y2 = y2 := by rw [IntWalk.i64_in _ (by omega)]
                have u3' : IntKind.i64.wrap y3 = y3 := by rw [IntWalk.i64_in _ (by omega)]
                have v0 : IntKind.i64.wrap (16777216 * y0) = 16777216 * y0 := by rw [IntWalk.i64_in _ (by omega)]
                have v1 : IntKind.i64.wrap (65536 * y1) = 65536 * y1 := by rw [IntWalk.i64_in _ (by omega)]
                have v2 : IntKind.i64.wrap (256 * y2) = 256 * y2 := by rw [IntWalk.i64_in _ (by omega)]
                have v3 : IntKind.i64.wrap (16777216 * y0 + 65536 * y1) = 16777216 * y0 + 65536 * y1 := by rw [IntWalk.i64_in _ (by omega)]
                have v4 : IntKind.i64.wrap (16777216 * y0 + 65536 * y1 + 256 * y2) = 16777216 * y0 + 65536 * y1 + 256 * y2 := by rw [IntWalk.i64_in _ (by omega)]
                obtain ⟨y, hyy⟩ : ∃ y, y = 16777216 * y0 + 65536 * y1 + 256 * y2 + y3 := ⟨_, rfl⟩
                have v5 : IntKind.i64.wrap (16777216 * y0 + 65536 * y1 + 256 * y2 + y3) = y := by rw [IntWalk.i64_in _ (by omega), hyy]
                have hyw : y = word4 bw j := by
                  unfold word4
                  rw [HBW.out, List.drop_drop, show m + 4 + 4 * j = p by have := HPE.out; have := HPJ.out; omega, num_four hy0 (by rw [← hp1]; exact hy1) (by rw [show p + 1 + 1 = p2 by omega]; exact hy2) (by rw [show p + 1 + 1 + 1 = p3 by omega]; exact hy3), hyy]
                have HYW := Lib.hid hyw
                have HSQ := Lib.hid (show ∀ X, Below g6 w6 X → w6.heap.size ≤ X.heap.size → X.heap[g6]? = wr.heap[g6]? → (fun W' : World => W'.cell? ⟨g6, 2, none⟩ = some (.slice Av N cv) ∧ W'.cell? ⟨b, o + p, none⟩ = some (.int .u8 y0) ∧ W'.cell? ⟨b, o + p1, none⟩ = some (.int .u8 y1) ∧ W'.cell? ⟨b, o + p2, none⟩ = some (.int .u8 y2) ∧ W'.cell? ⟨b, o + p3, none⟩ = some (.int .u8 y3)) X from fun X hX hZ h6 => ⟨(cells3 (h6.trans HV6.out)).1.2.2, HBG.out X hX hZ _ _ hy0, HBG.out X hX hZ _ _ hy1, HBG.out X hX hZ _ _ hy2, HBG.out X hX hZ _ _ hy3⟩)
                clear hyw hyy hy0 hy1 hy2 hy3 hp1 hp2 hp3' r0 r1 r2 r3
                go_upto_region 13 with fail
                refine wp_region_till 34 (S := (fun W' : World => W'.cell? ⟨g6, 2, none⟩ = some (.slice Av N cv) ∧ W'.cell? ⟨b, o + p, none⟩ = some (.int .u8 y0) ∧ W'.cell? ⟨b, o + p1, none⟩ = some (.int .u8 y1) ∧ W'.cell? ⟨b, o + p2, none⟩ = some (.int .u8 y2) ∧ W'.cell? ⟨b, o + p3, none⟩ = some (.int .u8 y3))) (by kernel_rfl) (HSQ.out _ (bl_drew HBJ.out) (by rw [World.size_drew]; exact HBJ.out.size) rfl) (fun hHeld => ?_)
                have hbx := bl_drew HBJ.out
                have h6x : wr.drew.heap[g6]? = some (.cells #[.int .i64 u, .int .i64 t, .slice Av N cv] 32 (0, 0)) := HV6.out
                have hox : wr.drew.ownsRow (g6 + 1) 2 1 (.slice Av N cv) N ((wordsOf j bw).flatMap iC) := HO6.out
                have hzx : g6 + 1 ≤ wr.drew.heap.size := HZJ.out
                generalize wr.drew = wx at hbx h6x hox hzx hHeld ⊢
                refine till_yes (i := 0) (v := ?_) rfl (by kernel_rfl) (by kernel_rfl) (by kernel_rfl) (by kernel_rfl) (by kernel_rfl) (fun _ _ _ h => h) (by kernel_rfl) (by assumption) ?_ ?_
                rotate_left 1
                · (intro w hSw; (try dsimp only at hSw); go_simp; try with_reducible rfl)
                try simp only [Act.put, List.setIfInBounds_toArray, List.set_cons_zero, List.set_cons_succ]

                refine till_yes (i := 1) (v := ?_) rfl (by kernel_rfl) (by kernel_rfl) (by kernel_rfl) (by kernel_rfl) (by kernel_rfl) (fun _ _ _ h => h) (by kernel_rfl) (by assumption) ?_ ?_
                rotate_left 1
                · (intro w hSw; (try dsimp only at hSw); go_simp; try with_reducible rfl)
                try simp only [Act.put, List.setIfInBounds_toArray, List.set_cons_zero, List.set_cons_succ]

                refine till_yes (i := 2) (v := ?_) rfl (by kernel_rfl) (by kernel_rfl) (by kernel_rfl) (by kernel_rfl) (by kernel_rfl) (fun _ _ _ h => h) (by kernel_rfl) (by assumption) ?_ ?_
                rotate_left 1
                · (intro w hSw; (try dsimp only at hSw); go_simp; try with_reducible rfl)
                try simp only [Act.put, List.setIfInBounds_toArray, List.set_cons_zero, List.set_cons_succ]

                refine till_yes (i := 3) (v := ?_) rfl (by kernel_rfl) (by kernel_rfl) (by kernel_rfl) (by kernel_rfl) (by kernel_rfl) (fun _ _ _ h => h) (by kernel_rfl) (by assumption) ?_ ?_
                rotate_left 1
                · (intro w hSw; (try dsimp only at hSw); go_simp; try with_reducible rfl)
                try simp only [Act.put, List.setIfInBounds_toArray, List.set_cons_zero, List.set_cons_succ]

                refine till_yes (i := 4) (v := ?_) rfl (by kernel_rfl) (by kernel_rfl) (by kernel_rfl) (by kernel_rfl) (by kernel_rfl) (fun _ _ _ h => h) (by kernel_rfl) (by assumption) ?_ ?_
                rotate_left 1
                · (intro w hSw; (try dsimp only at hSw); go_simp; try with_reducible rfl)
                try simp only [Act.put, List.setIfInBounds_toArray, List.set_cons_zero, List.set_cons_succ]

                refine till_yes (i := 5) (v := ?_) rfl (by kernel_rfl) (by kernel_rfl) (by kernel_rfl) (by kernel_rfl) (by kernel_rfl) (fun _ _ _ h => h) (by kernel_rfl) (by assumption) ?_ ?_
                rotate_left 1
                · (intro w hSw; (try dsimp only at hSw); go_simp; try with_reducible rfl)
                try simp only [Act.put, List.setIfInBounds_toArray, List.set_cons_zero, List.set_cons_succ]

                refine till_yes (i := 6) (v := ?_) rfl (by kernel_rfl) (by kernel_rfl) (by kernel_rfl) (by kernel_rfl) (by kernel_rfl) (fun _ _ _ h => h) (by kernel_rfl) (by assumption) ?_ ?_
                rotate_left 1
                · (intro w hSw; (try dsimp only at hSw); go_simp; try with_reducible rfl)
                try simp only [Act.put, List.setIfInBounds_toArray, List.set_cons_zero, List.set_cons_succ]

                refine till_yes (i := 7) (v := ?_) rfl (by kernel_rfl) (by kernel_rfl) (by kernel_rfl) (by kernel_rfl) (by kernel_rfl) (fun _ _ _ h => h) (by kernel_rfl) (by assumption) ?_ ?_
                rotate_left 1
                · (intro w hSw; (try dsimp only at hSw); go_simp; try with_reducible rfl)
                try simp only [Act.put, List.setIfInBounds_toArray, List.set_cons_zero, List.set_cons_succ]

                refine till_yes (i := 8) (v := ?_) rfl (by kernel_rfl) (by kernel_rfl) (by kernel_rfl) (by kernel_rfl) (by kernel_rfl) (fun _ _ _ h => h) (by kernel_rfl) (by assumption) ?_ ?_
                rotate_left 1
                · (intro w hSw; (try dsimp only at hSw); go_simp; try with_reducible rfl)
                try simp only [Act.put, List.setIfInBounds_toArray, List.set_cons_zero, List.set_cons_succ]

                refine till_yes (i := 9) (v := ?_) rfl (by kernel_rfl) (by kernel_rfl) (by kernel_rfl) (by kernel_rfl) (by kernel_rfl) (fun _ _ _ h => h) (by kernel_rfl) (by assumption) ?_ ?_
                rotate_left 1
                · (intro w hSw; (try dsimp only at hSw); go_simp; try with_reducible rfl)
                try simp only [Act.put, List.setIfInBounds_toArray, List.set_cons_zero, List.set_cons_succ]

                refine till_yes (i := 10) (v := ?_) rfl (by kernel_rfl) (by kernel_rfl) (by kernel_rfl) (by kernel_rfl) (by kernel_rfl) (fun _ _ _ h => h) (by kernel_rfl) (by assumption) ?_ ?_
                rotate_left 1
                · (intro w hSw; (try dsimp only at hSw); go_simp; try with_reducible rfl)
                try simp only [Act.put, List.setIfInBounds_toArray, List.set_cons_zero, List.set_cons_succ]

                refine till_yes (i := 11) (v := ?_) rfl (by kernel_rfl) (by kernel_rfl) (by kernel_rfl) (by kernel_rfl) (by kernel_rfl) (fun _ _ _ h => h) (by kernel_rfl) (by assumption) ?_ ?_
                rotate_left 1
                · (intro w hSw; (try dsimp only at hSw); go_simp; try with_reducible rfl)
                try simp only [Act.put, List.setIfInBounds_toArray, List.set_cons_zero, List.set_cons_succ]

                refine till_yes (i := 12) (v := ?_) rfl (by kernel_rfl) (by kernel_rfl) (by kernel_rfl) (by kernel_rfl) (by kernel_rfl) (fun _ _ _ h => h) (by kernel_rfl) (by assumption) ?_ ?_
                rotate_left 1
                · (intro w hSw; (try dsimp only at hSw); go_simp; try with_reducible rfl)
                try simp only [Act.put, List.setIfInBounds_toArray, List.set_cons_zero, List.set_cons_succ]

                refine till_yes (i := 13) (v := ?_) rfl (by kernel_rfl) (by kernel_rfl) (by kernel_rfl) (by kernel_rfl) (by kernel_rfl) (fun _ _ _ h => h) (by kernel_rfl) (by assumption) ?_ ?_
                rotate_left 1
                · (intro w hSw; (try dsimp only at hSw); go_simp; try with_reducible rfl)
                try simp only [Act.put, List.setIfInBounds_toArray, List.set_cons_zero, List.set_cons_succ]

                refine till_yes (i := 14) (v := ?_) rfl (by kernel_rfl) (by kernel_rfl) (by kernel_rfl) (by kernel_rfl) (by kernel_rfl) (fun _ _ _ h => h) (by kernel_rfl) (by assumption) ?_ ?_
                rotate_left 1
                · (intro w hSw; (try dsimp only at hSw); go_simp; try with_reducible rfl)
                try simp only [Act.put, List.setIfInBounds_toArray, List.set_cons_zero, List.set_cons_succ]

                refine till_yes (i := 15) (v := ?_) rfl (by kernel_rfl) (by kernel_rfl) (by kernel_rfl) (by kernel_rfl) (by kernel_rfl) (fun _ _ _ h => h) (by kernel_rfl) (by assumption) ?_ ?_
                rotate_left 1
                · (intro w hSw; (try dsimp only at hSw); go_simp; try with_reducible rfl)
                try simp only [Act.put, List.setIfInBounds_toArray, List.set_cons_zero, List.set_cons_succ]

                refine till_yes (i := 16) (v := ?_) rfl (by kernel_rfl) (by kernel_rfl) (by kernel_rfl) (by kernel_rfl) (by kernel_rfl) (fun _ _ _ h => h) (by kernel_rfl) (by assumption) ?_ ?_
                rotate_left 1
                · (intro w hSw; (try dsimp only at hSw); go_simp; try with_reducible rfl)
                try simp only [Act.put, List.setIfInBounds_toArray, List.set_cons_zero, List.set_cons_succ]

                refine till_yes (i := 17) (v := ?_) rfl (by kernel_rfl) (by kernel_rfl) (by kernel_rfl) (by kernel_rfl) (by kernel_rfl) (fun _ _ _ h => h) (by kernel_rfl) (by assumption) ?_ ?_
                rotate_left 1
                · (intro w hSw; (try dsimp only at hSw); go_simp; try with_reducible rfl)
                try simp only [Act.put, List.setIfInBounds_toArray, List.set_cons_zero, List.set_cons_succ]

                refine till_yes (i := 18) (v := ?_) rfl (by kernel_rfl) (by kernel_rfl) (by kernel_rfl) (by kernel_rfl) (by kernel_rfl) (fun _ _ _ h => h) (by kernel_rfl) (by assumption) ?_ ?_
                rotate_left 1
                · (intro w hSw; (try dsimp only at hSw); go_simp; try with_reducible rfl)
                try simp only [Act.put, List.setIfInBounds_toArray, List.set_cons_zero, List.set_cons_succ]

                refine till_yes (i := 19) (v := ?_) rfl (by kernel_rfl) (by kernel_rfl) (by kernel_rfl) (by kernel_rfl) (by kernel_rfl) (fun _ _ _ h => h) (by kernel_rfl) (by assumption) ?_ ?_
                rotate_left 1
                · (intro w hSw; (try dsimp only at hSw); go_simp; try with_reducible rfl)
                try simp only [Act.put, List.setIfInBounds_toArray, List.set_cons_zero, List.set_cons_succ]

                refine till_yes (i := 20) (v := ?_) rfl (by kernel_rfl) (by kernel_rfl) (by kernel_rfl) (by kernel_rfl) (by kernel_rfl) (fun _ _ _ h => h) (by kernel_rfl) (by assumption) ?_ ?_
                rotate_left 1
                · (intro w hSw; (try dsimp only at hSw); go_simp; try with_reducible rfl)
                try simp only [Act.put, List.setIfInBounds_toArray, List.set_cons_zero, List.set_cons_succ]

                refine till_yes (i := 21) (v := ?_) rfl (by kernel_rfl) (by kernel_rfl) (by kernel_rfl) (by kernel_rfl) (by kernel_rfl) (fun _ _ _ h => h) (by kernel_rfl) (by assumption) ?_ ?_
                rotate_left 1
                · (intro w hSw; (try dsimp only at hSw); go_simp; try with_reducible rfl)
                try simp only [Act.put, List.setIfInBounds_toArray, List.set_cons_zero, List.set_cons_succ]

                refine till_yes (i := 22) (v := ?_) rfl (by kernel_rfl) (by kernel_rfl) (by kernel_rfl) (by kernel_rfl) (by kernel_rfl) (fun _ _ _ h => h) (by kernel_rfl) (by assumption) ?_ ?_
                rotate_left 1
                · (intro w hSw; (try dsimp only at hSw); go_simp; try with_reducible rfl)
                try simp only [Act.put, List.setIfInBounds_toArray, List.set_cons_zero, List.set_cons_succ]

                refine till_yes (i := 23) (v := ?_) rfl (by kernel_rfl) (by kernel_rfl) (by kernel_rfl) (by kernel_rfl) (by kernel_rfl) (fun _ _ _ h => h) (by kernel_rfl) (by assumption) ?_ ?_
                rotate_left 1
                · (intro w hSw; (try dsimp only at hSw); go_simp; try with_reducible rfl)
                try simp only [Act.put, List.setIfInBounds_toArray, List.set_cons_zero, List.set_cons_succ]

                refine till_yes (i := 24) (v := ?_) rfl (by kernel_rfl) (by kernel_rfl) (by kernel_rfl) (by kernel_rfl) (by kernel_rfl) (fun _ _ _ h => h) (by kernel_rfl) (by assumption) ?_ ?_
                rotate_left 1
                · (intro w hSw; (try dsimp only at hSw); go_simp; try with_reducible rfl)
                try simp only [Act.put, List.setIfInBounds_toArray, List.set_cons_zero, List.set_cons_succ]

                refine till_yes (i := 25) (v := ?_) rfl (by kernel_rfl) (by kernel_rfl) (by kernel_rfl) (by kernel_rfl) (by kernel_rfl) (fun _ _ _ h => h) (by kernel_rfl) (by assumption) ?_ ?_
                rotate_left 1
                · (intro w hSw; (try dsimp only at hSw); go_simp; try with_reducible rfl)
                try simp only [Act.put, List.setIfInBounds_toArray, List.set_cons_zero, List.set_cons_succ]

                refine till_yes (i := 26) (v := ?_) rfl (by kernel_rfl) (by kernel_rfl) (by kernel_rfl) (by kernel_rfl) (by kernel_rfl) (fun _ _ _ h => h) (by kernel_rfl) (by assumption) ?_ ?_
                rotate_left 1
                · (intro w hSw; (try dsimp only at hSw); go_simp; try with_reducible rfl)
                try simp only [Act.put, List.setIfInBounds_toArray, List.set_cons_zero, List.set_cons_succ]

                refine till_yes (i := 27) (v := ?_) rfl (by kernel_rfl) (by kernel_rfl) (by kernel_rfl) (by kernel_rfl) (by kernel_rfl) (fun _ _ _ h => h) (by kernel_rfl) (by assumption) ?_ ?_
                rotate_left 1
                · (intro w hSw; (try dsimp only at hSw); go_simp; try with_reducible rfl)
                try simp only [Act.put, List.setIfInBounds_toArray, List.set_cons_zero, List.set_cons_succ]

                refine till_yes (i := 28) (v := ?_) rfl (by kernel_rfl) (by kernel_rfl) (by kernel_rfl) (by kernel_rfl) (by kernel_rfl) (fun _ _ _ h => h) (by kernel_rfl) (by assumption) ?_ ?_
                rotate_left 1
                · (intro w hSw; (try dsimp only at hSw); go_simp; try with_reducible rfl)
                try simp only [Act.put, List.setIfInBounds_toArray, List.set_cons_zero, List.set_cons_succ]

                refine till_yes (i := 29) (v := ?_) rfl (by kernel_rfl) (by kernel_rfl) (by kernel_rfl) (by kernel_rfl) (by kernel_rfl) (fun _ _ _ h => h) (by kernel_rfl) (by assumption) ?_ ?_
                rotate_left 1
                · (intro w hSw; (try dsimp only at hSw); go_simp; try with_reducible rfl)
                try simp only [Act.put, List.setIfInBounds_toArray, List.set_cons_zero, List.set_cons_succ]

                refine till_yes (i := 30) (v := ?_) rfl (by kernel_rfl) (by kernel_rfl) (by kernel_rfl) (by kernel_rfl) (by kernel_rfl) (fun _ _ _ h => h) (by kernel_rfl) (by assumption) ?_ ?_
                rotate_left 1
                · (intro w hSw; (try dsimp only at hSw); go_simp; try with_reducible rfl)
                try simp only [Act.put, List.setIfInBounds_toArray, List.set_cons_zero, List.set_cons_succ]

                have hz6 := HZ6.out
                refine till_one (i := 31) rfl (by kernel_rfl) (fun K' hK => ?_)
                go_simp
                refine hK.out _ _ (HSQ.out _ (hbx.alloc (by omega) _) (by simp; omega) ((bl_alloc (Below.refl wx.heap.size wx) _).block g6 (by omega) |>.trans (h6x.trans HV6.out.symm))) (fun hHeld2 => ?_)
                clear hK K' hHeld
                try simp only [Act.put, List.setIfInBounds_toArray, List.set_cons_zero, List.set_cons_succ]
                refine till_one (i := 32) rfl (by kernel_rfl) (fun K' hK => ?_)
                refine step_app rfl (.tmp 78) (.tmp 108) rfl elI (fun _ => rfl) i_one (base := g6 + 1) (v := .slice Av N cv) (src := .slice (some ⟨wx.heap.size, 0, none⟩) 1 1) (xs := wordsOf j bw) (ys := [y]) (by go_simp) (by go_simp) HN.out (own_alloc hox _) (sat_oneW wx y rfl) (by simp; omega) ?b63 ?bby ?_
                case b63 => rw [wordsOf_len]; simp [maxLen]; omega
                case bby => rw [wordsOf_len]; simp; omega
                intro v7 w7 ho7 hb7
                obtain ⟨A7, c7, rfl⟩ := own_form ho7
                rw [HYW.out, ← wordsOf_succ] at ho7
                have hln : (wordsOf (j + 1) bw).length = N + 1 := by rw [wordsOf_len, HN2.out]
                have hln2 : (wordsOf j bw ++ [y]).length = N + 1 := by rw [List.length_append, ← HN.out]; rfl
                rw [hln] at ho7
                rw [hln2]
                have HO7 := Lib.hid ho7
                have hb7' : Below (g6 + 1) wx w7 := ((Below.refl (g6 + 1) wx).alloc hzx _).trans hb7
                have hg7 : w7.heap[g6]? = some (.cells #[.int .i64 u, .int .i64 t, .slice Av N cv] 32 (0, 0)) := (hb7'.block g6 (by omega)).trans h6x
                have hb67 : Below g6 w6 w7 := hbx.trans (hb7'.mono (by omega))
                refine hK.out _ _ (HSQ.out _ hb67 hb67.size (hg7.trans HV6.out.symm)) (fun hHeld4 => ?_)
                clear hK K' hHeld2
                try simp only [Act.put, List.setIfInBounds_toArray, List.set_cons_zero, List.set_cons_succ]
                refine till_yes (i := 33) (v := ?_) rfl (by kernel_rfl) (by kernel_rfl) (by kernel_rfl) (by kernel_rfl) (by kernel_rfl) (fun _ _ _ h => h) (by kernel_rfl) (by assumption) ?_ ?_
                rotate_left 1
                · (intro w hSw; (try dsimp only at hSw); go_simp; try with_reducible rfl)
                try simp only [Act.put, List.setIfInBounds_toArray, List.set_cons_zero, List.set_cons_succ]

                obtain ⟨⟨f0, f1, f2⟩, f3, f4, f5⟩ := cells3 hg7
                refine till_late (i := 34) rfl (by decide) (by kernel_rfl) (fun K' hK => ?_)
                go_simp
                refine hK.out _ _ ?_
                clear hK K'
                try simp only [Act.put, List.setIfInBounds_toArray, List.set_cons_zero, List.set_cons_succ]
                refine till_done (by kernel_rfl) ?_ _
                have hg8 : (w7.setCell ⟨g6, 2, none⟩ (.slice A7 (N + 1) c7)).heap[g6]? = some (.cells #[.int .i64 u, .int .i64 t, .slice A7 (N + 1) c7] 32 (0, 0)) := by simp [World.setCell, Array.getElem?_modify, hg7]
                have hbt8 := But.set g6 2 w7 (.slice A7 (N + 1) c7)
                have ho8 := own_but HO7.out hbt8 (by omega)
                have hb8 : Below g6 w6 (w7.setCell ⟨g6, 2, none⟩ (.slice A7 (N + 1) c7)) := hb67.trans (hbt8.below (Nat.le_refl _))
                have hz8 : g6 + 1 ≤ (w7.setCell ⟨g6, 2, none⟩ (.slice A7 (N + 1) c7)).heap.size := by rw [hbt8.size]; exact Nat.le_trans hzx hb7'.size
                generalize (w7.setCell ⟨g6, 2, none⟩ (.slice A7 (N + 1) c7)) = w8 at hg8 ho8 hb8 hz8 ⊢
                have HW8 := Lib.hid (And.intro hg8 (And.intro ho8 (And.intro hb8 hz8)))
                clear hg8 ho8 hb8 hz8 hbt8 hg7 hb67 hb7' hb7 ho7 hox h6x hbx hzx hHeld4 f0 f1 f2 f3 f4 f5 hln hln2 v0 v1 v2 v3 v4 v5 u0 u1 u2' u3' k1 k2 k3 q0 q1 q2 q3
                go_wp2_with fail
                go_roundg (K - (j + 1))
                case measure => omega
                case rel =>
                  obtain ⟨g1, g2, g3, g4⟩ := HW8.out
                  refine ⟨j + 1, p + 4, by omega, by omega, by first | exact k4 | (rw [k4]) | go_num, (show p + 4 = p0 + 4 * (j + 1) by have := HPJ.out; omega), ⟨_, g1, ?_⟩, g3, g4⟩
                  rw [wordsOf_len]
                  rw [HN2.out] at g2 ⊢
                  exact g2
              · obtain rfl : j = K := by omega
                have hpe : ¬ (p : Int) < (e0 : Int) := by have := HPE.out; have := HPJ.out; omega
                obtain ⟨⟨e0', e1, e2⟩, -⟩ := cells3 HV6.out
                obtain ⟨q, hq⟩ : ∃ q : Ob, q = ⟨.slice Av N cv, u, t, wordsOf j bw⟩ := ⟨_, rfl⟩
                have hst : stepO (bs.drop m) = some (q.key, bs.drop e0) := by
                  obtain ⟨a1, a2, a3⟩ := HPE.out
                  obtain ⟨c1, c2, c3, c4', c5⟩ := HMM.out
                  obtain ⟨b1, b2⟩ := HU.out
                  obtain ⟨d1, d2⟩ := HT.out
                  unfold stepO
                  rw [if_neg (by rw [List.length_drop]; omega), HLN.out, if_pos ⟨by omega, by omega, by omega, by rw [List.length_drop]; omega⟩, List.drop_drop, List.drop_drop, List.drop_drop, List.drop_drop, ← b1, ← d1, num_one b2, num_one d2, ← HBW.out, show L.toNat / 4 - 1 = j by omega, show m + L.toNat = e0 by omega, hq]
                  rfl
                have hrd := rd_some (by rw [List.length_drop]; omega) hst
                have HRD2 : Hid ((pre ++ [q]).map Ob.key ++ (rd (bs.drop e0)).1 = (rd bs).1 ∧ (rd (bs.drop e0)).2 = (rd bs).2) := Lib.hid (by
                  have h9 := HRD.out
                  rw [hrd] at h9
                  exact ⟨by rw [← h9.1]; simp, h9.2⟩)
                have hlow : Below wq.heap.size wq wr := by rw [← HG6.out]; exact HB6.out.trans HBJ.out
                have hcl : ∀ (i : Nat) (o : Obj), wq.heap[i]? = some o → wr.heap[i]? = some o := fun i o hi => (hlow.block i (Array.getElem?_eq_some_iff.1 hi).1).trans hi
                have HOW := Lib.hid (own_kept HOQ.out (W := wr) fun i cur _ hi => hcl i _ hi)
                have HWW : Hid (∀ q ∈ pre, WsIn wr q.v q.ws) := Lib.hid fun q hq => (HWS.out q hq).kept fun i cur hi => hcl i _ ((HBQ.out.block i (Array.getElem?_eq_some_iff.1 hi).1).trans hi)
                have HQW : Hid (WsIn wr q.v q.ws) := Lib.hid ⟨g6 + 1, by
                  rw [hq]
                  have h9 := HO6.out
                  rw [HN.out] at h9
                  rw [HN.out]
                  exact h9⟩
                have hqc : [q].flatMap Ob.cells = [.int .i64 u, .int .i64 t, .slice Av N cv] := by rw [hq]; rfl
                have HQ1 : Hid (∀ x ∈ [q], ∀ u ∈ Ob.cells x, u.oneCell' = true) := Lib.hid (by rw [hq]; intro x hx z hz; simp only [List.mem_singleton] at hx; subst hx; simp [Ob.cells] at hz; rcases hz with rfl | rfl | rfl <;> rfl)
                have HSQ : Hid (SAt Ob.cells 3 (wr.alloc (.cells #[.int .i64 u, .int .i64 t, .slice Av N cv] 32)) (.slice (some ⟨wr.heap.size, 0, none⟩) 1 1) [q]) := Lib.hid (Or.inr ⟨_, 0, 1, rfl, Nat.le_refl _, by simp [maxLen], rowAt_new (enc := Ob.cells) (k := 3) (fun _ => rfl) wr 32 [q] rfl (by rw [hqc])⟩)
                have HWL : Hid (Below w.heap.size w wr) := Lib.hid (HB.out.trans ((bl_then HBQ.out hlow).mono HB.out.size))
                obtain ⟨M, hM⟩ : ∃ M, M = pre.length := ⟨_, rfl⟩
                have HM := Lib.hid hM
                have HE0 : Hid (m < e0) := Lib.hid (by have := HPE.out; omega)
                clear hq hst hrd hlow hcl hqc hM
                go_wp2_with (at_builtin; go_loud (refine wpList_appI rfl (.tmp 111) (.tmp 113) rfl elO (fun _ => rfl) (base := w.heap.size) (v := .slice A4 pre.length c4) (src := .slice (some ⟨wr.heap.size, 0, none⟩) 1 1) (xs := pre) (ys := [q]) (by go_simp) (by go_simp) rfl (own_alloc HOW.out _) HSQ.out (by have := HWL.out.size; simp; omega) (fun x hx u hu => HQ1.out x hx u hu) (by simp [maxLen]; omega) (by simp; omega) ?_; intro v9 w9 ho9 hg9; have HO9 := Lib.hid ho9; have HG9 := Lib.hid hg9; have HB9 := Lib.hid (own_below (own_alloc HOW.out _) hg9 (by have := HWL.out.size; simp; omega)); clear ho9 hg9))
                go_roundg (bs.length - e0)
                case measure => have := HE0.out; omega
                case rel =>
                  have hk9 : KeptT 32 wr w9 := (KeptT.ofBelow (bl_alloc (Below.refl _ _) _)).trans (KeptT.grown (own_alloc HOW.out _) HG9.out)
                  refine ⟨e0, pre ++ [q], heb, Nat.le_refl _, rfl, HO9.out, ?_, HWL.out.trans (((Below.refl w.heap.size wr).alloc HWL.out.size _).trans HB9.out), by rw [List.length_append]; have := HP40.out; simp; omega, HRD2.out⟩
                  show ∀ z ∈ pre ++ [q], WsIn w9 z.v z.ws
                  intro z hz
                  rcases List.mem_append.1 hz with hz | hz
                  · exact (HWW.out z hz).kept fun i cur hi => hk9 i cur _ _ (by decide) hi
                  · simp only [List.mem_singleton] at hz
                    subst hz
                    exact HQW.out.kept fun i cur hi => hk9 i cur _ _ (by decide) hi
    · obtain rfl : m = bs.length := by omega
      have hltz : ¬ ((bs.length : Nat) : Int) < ((bs.length : Nat) : Int) := by omega
      have hfin : Q (.returned (.tuple #[.slice A4 pre.length c4, .bool true])) wr := by
        rw [HQ.out]
        have h9 := HRD.out
        rw [List.drop_length, rd_nil] at h9
        refine ⟨HB.out, .inl ⟨pre, _, ?_, rfl, HO.out, HWS.out⟩⟩
        unfold parseO
        rw [if_pos ⟨h9.2.symm, by rw [← h9.1]; simpa using hpl⟩, ← h9.1]
        simp
      have HF := Lib.hid hfin
      clear hfin
      go_wp2_with fail
      exact HF.out
end Go.Proofs.Ytnflgikmljfakaa
