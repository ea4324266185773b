/- Ledger: steps, maps.Equal of steps, Copy, Same. -/
import Derived.Test.YtfnijjjfodpnnaaLedR
namespace Go.Proofs.Ytfnijjjfodpnnaa
open Go.RowKit Go.Shelf

def enS (l : List (Int × Int)) : List (Int × Value) := l.map fun p => (p.1, .int .i64 p.2)
def getS (l : List (Int × Int)) (i : Int) : Option Int := (l.find? fun p => decide (p.1 = i)).map (·.2)
def putS (l : List (Int × Int)) (i v : Int) : List (Int × Int) := if (getS l i).isSome then l.map (fun p => if p.1 = i then (p.1, v) else p) else l ++ [(i, v)]
def delS (l : List (Int × Int)) (i : Int) : List (Int × Int) := l.filter fun p => p.1 ≠ i
theorem mget_S (l : List (Int × Int)) (i : Int) : mget (enS l) i = (getS l i).map (.int .i64) := by
  unfold mget enS getS
  rw [List.find?_map, Option.map_map, Option.map_map]
  rfl
theorem mput_S (l : List (Int × Int)) (i v : Int) : mput (enS l) i (.int .i64 v) = enS (putS l i v) := by
  unfold mput putS
  rw [mget_S]
  cases h : getS l i with
  | none => simp [enS]
  | some y =>
    simp only [Option.map_some, Option.isSome_some, if_true, enS, List.map_map]
    apply List.map_congr_left
    intro e _
    simp only [Function.comp]
    split <;> rfl
theorem mdel_S (l : List (Int × Int)) (i : Int) : mdel (enS l) i = enS (delS l i) := by
  unfold mdel delS enS
  rw [List.filter_map]
  rfl
theorem zero_i (w : World) : (zeroValue 2).run Try.prog w = .ok (.int .i64 0) w := by kernel_rfl
theorem look_S {w : World} {r : Nat} {l : List (Int × Int)} (h : MapOf enc1 w r (enS l)) (i : Int) (c : Bool) :
    (Instr.lookup 87 (.map (some r)) (.int .i64 i) c).run Try.prog w = .ok (if c then .tuple #[.int .i64 ((getS l i).getD 0), .bool (getS l i).isSome] else .int .i64 ((getS l i).getD 0)) w := by
  have h1 := run_look klaw1 Try.underlying87 (zero_i w) h i c
  rw [mget_S] at h1
  cases hg : getS l i with
  | none => rw [hg] at h1; exact h1
  | some y => rw [hg] at h1; exact h1
def stepG (m : List (Int × Int)) (g : Ling) : List (Int × Int) := putS m g.u (wrap64 ((getS m g.u).getD 0 + g.r))
def stepsOf (gs : List Ling) : List (Int × Int) := delS (gs.foldl stepG []) 0
theorem fold_snoc (gs : List Ling) (k : Nat) (x : Ling) (h : gs[k]? = some x) : (gs.take (k + 1)).foldl stepG [] = stepG ((gs.take k).foldl stepG []) x := by
  rw [List.take_add_one, h, List.foldl_append]; rfl
set_option maxRecDepth 100000 in
set_option maxHeartbeats 1000000 in
theorem steps_any (p r : Nat) (share room : Int) (es : List En) (gs : List Ling) (w : World) (h : LedgerAt w p r share room es gs) :
    Calls Try.prog 45 #[.pointer (some ⟨p, 0, none⟩)] w fun e w' => (∃ r', e = .returned (.map (some r')) ∧ MapOf enc1 w' r' (enS (stepsOf gs))) ∧ Below w.heap.size w w' := by
  obtain ⟨v, c0, c1, c2, c3, hs, hm⟩ := h.cells
  have hpl := h.lt.1
  obtain ⟨A, c, rfl⟩ := hs.slice
  have hlen := hs.len
  unfold maxLen at hlen
  have hmm := @run_makeMap Try.prog
  have HS := Lib.hid hs
  have HGE : Hid (∀ j, j < gs.length → gs[j]? = some (gs.getD j Ling0)) := Lib.hid fun j hj => by simp [List.getD, hj]
  have HM0 : Hid (MapOf enc1 (w.alloc (.map #[] 0)) w.heap.size (enS ([] : List (Int × Int)))) := Lib.hid (MapOf.made w)
  clear h hs hm c0 c1 c2
  go_enter Try.func45, Try.ntmps45
  go_wp2_with fail
  clear hmm
  go_loopg [12] gs.length (fun gg s12 wr => ∃ kk : Nat, kk ≤ gs.length ∧ gs.length - kk ≤ gg ∧ s12 = .int .i64 kk ∧ Aside (MapOf enc1 wr w.heap.size (enS ((gs.take kk).foldl stepG []))) ∧ Aside (Below w.heap.size w wr))
  case atStart => exact ⟨0, Nat.zero_le _, by omega, rfl, HM0.out, bl_alloc (Below.refl _ _) _⟩
  case round =>
    obtain ⟨kk, hkk, hgg, rfl, HM, HB⟩ := hrel
    by_cases hlt : kk < gs.length
    · have hltz : (kk : Int) < (gs.length : Int) := by omega
      have hgj := HGE.out kk hlt
      generalize gs.getD kk Ling0 = x at hgj
      have hsn := fold_snoc gs kk x hgj
      have HSN := Lib.hid hsn
      rcases HS.out.below HB.out with ⟨h1, h2⟩ | ⟨b, o, c', h1, _, _, hrow⟩
      · subst h2; simp at hlt
      · have hA : A = some ⟨b, o, none⟩ := by injection h1
        obtain ⟨e0, e1⟩ := LingAt.ofRow hrow hgj
        subst hA
        have hbs : b < wr.heap.size := World.block_lt_of_cell? wr ⟨b, o + kk * 2, none⟩ e0
        have hba := bl_alloc (Below.refl wr.heap.size wr) (.cells #[.int .i64 x.r, .int .i64 x.u] 84)
        have hm2 := HM.out.below hba
        have hlook := look_S hm2 x.u false
        have HM2 := Lib.hid hm2
        simp only [Bool.false_eq_true, if_false] at hlook
        clear hgj hrow h1 hsn hba hm2
        generalize (gs.take kk).foldl stepG [] = m at HSN HM2 hlook
        go_wp2_with (refine wpList_store rfl _ _ _ rfl klaw1 Try.underlying87 HM2.out x.u (.int .i64 (wrap64 ((getS m x.u).getD 0 + x.r))) rfl rfl rfl ?_; intro w3 hm3 hg3 hz3)
        have hb3 : Below w.heap.size w w3 := (bl_alloc HB.out _).grown hg3 (by have := HB.out.size; simp; omega) (by intro k hk; cases hk; omega)
        rw [mput_S] at hm3
        have HM3 := Lib.hid hm3
        have HB3 := Lib.hid hb3
        clear hm3 hg3 hz3 hb3
        go_roundg (gs.length - (kk + 1))
        case measure => omega
        case rel => exact ⟨kk + 1, by omega, by omega, by go_num, by rw [HSN.out]; exact HM3.out, HB3.out⟩
    · have hltz : ¬ (kk : Int) < (gs.length : Int) := by omega
      have hke : kk = gs.length := by omega
      subst hke
      have hmf := HM.out
      rw [List.take_length] at hmf
      have HMF := Lib.hid hmf
      clear hmf
      go_wp2_with (refine wpList_delete rfl _ _ rfl klaw1 Try.underlying87 HMF.out 0 rfl rfl ?_; intro w3 hm3 hg3 hz3)
      go_ret
      exact ⟨⟨_, rfl, by unfold stepsOf; rw [← mdel_S]; exact hm3⟩, HB.out.grown hg3 (by exact HB.out.size) (by intro k hk; cases hk; omega)⟩
/-- maps.Equal at numbers. -/
def eqS (a b : List (Int × Int)) : Bool := decide (a.length = b.length) && a.all fun x => (getS b x.1).isSome && decide (x.2 = (getS b x.1).getD 0)
theorem mlen_runS {w : World} {r : Nat} {es : List (Int × Int)} (h : MapOf enc1 w r (enS es)) (ty : TypeId) : (Builtin.len_ #[87] ty #[.map (some r)]).run Try.prog w = .ok (.int .i64 es.length) w := by
  obtain ⟨ees, cl, hb2, hsz⟩ := run_mlen h
  simp [Builtin.len_, run_underlying Try.underlying87, MapKept.run_getObj_map hb2, goInt, hsz, enS]
set_option maxRecDepth 100000 in
set_option maxHeartbeats 1000000 in
theorem equalS_any (r1 r2 : Nat) (e1 e2 : List (Int × Int)) (w : World) (h1 : MapOf enc1 w r1 (enS e1)) (h2 : MapOf enc1 w r2 (enS e2)) :
    Calls Try.prog 44 #[.map (some r1), .map (some r2)] w fun e w' => e = .returned (.bool (eqS e1 e2)) ∧ Below w.heap.size w w' := by
  have hm1 := mlen_runS h1
  have hm2 := mlen_runS h2
  have H1 := Lib.hid h1
  have H2 := Lib.hid h2
  unfold eqS
  by_cases hne : e1.length = e2.length
  · obtain ⟨o, hrange, hR⟩ := run_range (P := Try.prog) Try.underlying87 h1
    have hnez : ((e1.length : Int) == (e2.length : Int)) = true := beq_iff_eq.2 (by omega)
    have HR := Lib.hid hR
    simp only [decide_eq_true hne, Bool.true_and]
    clear h1 h2 hR
    go_enter Try.func44, Try.ntmps44
    go_wp2_with fail
    generalize hW0 : w.alloc o = W0 at HR ⊢
    have hW0b : Below w.heap.size w W0 := hW0 ▸ bl_alloc (Below.refl _ _) _
    have hW0s : W0.heap.size = w.heap.size + 1 := by rw [← hW0]; simp
    have HW0 := Lib.hid hW0b
    have HS0 := Lib.hid hW0s
    clear hW0 hW0b hW0s hrange hm1 hm2 hnez
    go_loopg [4] e1.length (fun gg s4 wr => ∃ dn lf : List (Int × Int), lf.length ≤ gg ∧ s4 = .bool false ∧ Aside ((dn ++ lf).Perm e1) ∧ Aside (RangeAt enc1 wr r1 w.heap.size (enS e1) (enS lf)) ∧ Aside (Below w.heap.size W0 wr) ∧ Aside (∀ x ∈ dn, ((getS e2 x.1).isSome && decide (x.2 = (getS e2 x.1).getD 0)) = true))
    case atStart => exact ⟨[], e1, Nat.le_refl _, rfl, List.Perm.refl _, HR.out, Below.refl _ _, (show Aside _ from fun x hx => absurd hx (by simp))⟩
    case round =>
      obtain ⟨dn, lf, hgg, rfl, HP, HRG, HB, HOK⟩ := hrel
      rcases run_next (P := Try.prog) HRG.out with ⟨hl0, hrun⟩ | ⟨k, v', i, w2, hi, hrun, hR2, hent, hg2, hsz2⟩
      · have hlf : lf = [] := by cases lf with | nil => rfl | cons a b => simp [enS] at hl0
        subst hlf
        have hp := HP.out
        rw [List.append_nil] at hp
        have hall : (e1.all fun x => (getS e2 x.1).isSome && decide (x.2 = (getS e2 x.1).getD 0)) = true := List.all_eq_true.2 fun x hx => HOK.out x (hp.mem_iff.2 hx)
        have HALL := Lib.hid hall
        clear hall hl0 hp hgg
        go_wp2_with fail
        go_ret
        exact ⟨by rw [HALL.out]; rfl, HW0.out.trans HB.out⟩
      · have hx : ∃ x, lf[i]? = some x ∧ k = x.1 ∧ v' = .int .i64 x.2 := by
          simp only [enS, List.getElem?_map] at hi
          obtain ⟨x, hx, he⟩ := Option.map_eq_some_iff.1 hi
          simp at he
          exact ⟨x, hx, he.1.symm, he.2.symm⟩
        obtain ⟨x, hx, rfl, rfl⟩ := hx
        unfold enc1 at hrun hent
        have hil : i < lf.length := (List.getElem?_eq_some_iff.1 hx).1
        have hperm := perm_eraseIdx lf i x hx
        have hp2 : ((dn ++ [x]) ++ lf.eraseIdx i).Perm e1 := by
          refine List.Perm.trans ?_ HP.out
          rw [List.append_assoc]
          exact (hperm.symm).append_left dn
        have hR3 : RangeAt enc1 w2 r1 w.heap.size (enS e1) (enS (lf.eraseIdx i)) := by
          have e : enS (lf.eraseIdx i) = (enS lf).eraseIdx i := by unfold enS; exact ChangeMaps.map_eraseIdx _ _ _
          rw [e]
          exact hR2
        have hB2 : Below w.heap.size W0 w2 := HB.out.grown hg2 (by have := HB.out.size; have := HS0.out; omega) (by intro k hk; cases hk; omega)
        have hmem : x ∈ e1 := hp2.mem_iff.1 (by simp)
        have hlook := look_S (H2.out.below (HW0.out.trans hB2)) x.1 true
        simp only [if_true] at hlook
        have HP2 := Lib.hid hp2
        have HR3 := Lib.hid hR3
        have HB2 := Lib.hid hB2
        have HMEM := Lib.hid hmem
        cases hhas : (getS e2 x.1).isSome with
        | false =>
          rw [hhas] at hlook
          have hall : (e1.all fun x => (getS e2 x.1).isSome && decide (x.2 = (getS e2 x.1).getD 0)) = false := List.all_eq_false.2 ⟨x, HMEM.out, by simp [hhas]⟩
          have HALL := Lib.hid hall
          clear hi hx hperm hp2 hR2 hR3 hB2 hmem HP HRG HB hg2 hsz2 hall hhas
          go_wp2_with fail
          go_ret
          exact ⟨by rw [HALL.out]; rfl, by repeat (first | exact HW0.out.trans HB2.out | refine bl_alloc ?_ _ | refine bl_set ?_ (by simp <;> omega) _)⟩
        | true =>
          rw [hhas] at hlook
          cases hsm : decide (x.2 = (getS e2 x.1).getD 0) with
          | false =>
            have hneq : x.2 ≠ (getS e2 x.1).getD 0 := of_decide_eq_false hsm
            have hneq : (x.2 == (getS e2 x.1).getD 0) = false := beq_eq_false_iff_ne.2 hneq
            have hall : (e1.all fun x => (getS e2 x.1).isSome && decide (x.2 = (getS e2 x.1).getD 0)) = false := List.all_eq_false.2 ⟨x, HMEM.out, by simp [hhas, hsm]⟩
            have HALL := Lib.hid hall
            generalize (getS e2 x.1).getD 0 = old at hlook hneq
            clear hi hx hperm hp2 hR2 hR3 hB2 hmem HP HRG HB hg2 hsz2 hall hhas hsm
            go_wp2_with fail
            go_ret
            exact ⟨by rw [HALL.out]; rfl, by repeat (first | exact HW0.out.trans HB2.out | refine bl_alloc ?_ _ | refine bl_set ?_ (by simp <;> omega) _)⟩
          | true =>
            have hneq : x.2 = (getS e2 x.1).getD 0 := of_decide_eq_true hsm
            have hneq : (x.2 == (getS e2 x.1).getD 0) = true := beq_iff_eq.2 hneq
            have hok2 : ∀ y ∈ dn ++ [x], ((getS e2 y.1).isSome && decide (y.2 = (getS e2 y.1).getD 0)) = true := fun y hy => by
              rcases List.mem_append.1 hy with hy | hy
              · exact HOK.out y hy
              · simp at hy; subst hy; simp [hhas, hsm]
            have HOK2 := Lib.hid hok2
            generalize (getS e2 x.1).getD 0 = old at hlook hneq
            clear hi hx hperm hp2 hR2 hR3 hB2 hmem HP HRG HB hg2 hsz2 hhas hsm hok2
            go_wp2_with fail
            go_roundg (lf.length - 1)
            case measure => omega
            case rel =>
              refine ⟨dn ++ [x], lf.eraseIdx i, by rw [List.length_eraseIdx]; split <;> omega, rfl, HP2.out, HR3.out.below (by repeat (first | exact Below.refl _ _ | refine bl_alloc ?_ _ | refine bl_drewN ?_ _ | refine bl_drew ?_)), ?_, HOK2.out⟩
              exact HB2.out.trans ((show Below w2.heap.size w2 _ from by repeat (first | exact Below.refl _ _ | refine bl_alloc ?_ _ | refine bl_drewN ?_ _ | refine bl_drew ?_)).mono (by have := HB2.out.size; have := HS0.out; omega))
  · have hnez : ((e1.length : Int) == (e2.length : Int)) = false := beq_eq_false_iff_ne.2 (by omega)
    simp only [decide_eq_false hne, Bool.false_and]
    clear h1 h2
    go_enter Try.func44, Try.ntmps44
    go_wp2_with fail
    go_ret
    exact ⟨rfl, Below.refl _ _⟩

end Go.Proofs.Ytfnijjjfodpnnaa
