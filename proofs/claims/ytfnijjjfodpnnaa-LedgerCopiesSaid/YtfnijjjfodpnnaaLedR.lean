/- Ledger: Copy, Get, maps.Equal, steps, Same. -/
import Derived.Test.YtfnijjjfodpnnaaLedN
import Derived.Shelf.SlMaps.Clone
namespace Go.Proofs.Ytfnijjjfodpnnaa
open Go.RowKit Go.Shelf

set_option maxRecDepth 100000 in
set_option maxHeartbeats 400000 in
theorem cloneMap_any (r : Nat) (es : List En) (w : World) (h : MapOf enc1 w r (enL es)) :
    Calls Try.prog 41 #[.map (some r)] w fun e w' => e = .returned (.map (some w.heap.size)) ∧ MapOf enc1 w' w.heap.size (enL es) ∧ Below w.heap.size w w' := by
  have hq := fun w => run_eql_map_nil_sl (P := Try.prog) w 62 _ _ (some r) Try.underlying62
  obtain ⟨ees, cl, hb, rest⟩ := h
  go_enter Try.func41, Try.ntmps41
  go_wp2
  rw [run_callFunc_extern Try.func65 (by kernel_rfl) (by kernel_rfl) (by kernel_rfl) (e := Extern.MapsClone.clone) (by kernel_rfl), run_maps_clone_sl w 62 hb]
  simp only [Result.andThen]
  rw [Oper.upon_value]
  go_wp2
  rw [run_typeAssert_map_sl _ 62 20 _ _ _ Try.underlying62]
  simp only [Result.andThen]
  rw [Oper.upon_value]
  go_wp2
  go_ret
  exact ⟨rfl, ⟨ees, cl, at_alloc rfl, rest⟩, bl_alloc (Below.refl _ _) _⟩

set_option maxRecDepth 100000 in
set_option maxHeartbeats 400000 in
theorem get_led (p r : Nat) (share room : Int) (es : List En) (gs : List Ling) (i : Int) (w : World) (h : LedgerAt w p r share room es gs) :
    Calls Try.prog 19 #[.pointer (some ⟨p, 0, none⟩), .int .i64 i] w fun e w' => e = .returned (.tuple #[.agg #[.int .i64 (oldE es i).i, .int .i64 (oldE es i).r, .int .i64 (oldE es i).m], .bool (getE es i).isSome]) ∧ Below w.heap.size w w' := by
  obtain ⟨v, c0, c1, c2, c3, hs, hm⟩ := h.cells
  have hb1 := bl_alloc (Below.refl w.heap.size w) (.cells #[.int .i64 0, .int .i64 0, .int .i64 0] 30)
  have hlook := look_en (hm.below hb1) i true
  have HC2 := Lib.hid (bl_cell hb1 c2)
  have hpl := h.lt.1
  generalize oldE es i = old at hlook ⊢
  generalize (getE es i).isSome = has at hlook ⊢
  simp only [if_true] at hlook
  clear h hs hm hb1 c0 c1 c3
  go_enter Try.func19, Try.ntmps19
  go_wp2_with (go_at_call 32; refine (none_no p r _ HC2.out).mono ?_; rintro e w' ⟨rfl, rfl⟩)
  exact bodyPost_ret (v := .tuple #[.agg #[.int .i64 old.i, .int .i64 old.r, .int .i64 old.m], .bool has]) (by simp [results, Try.results19, go_sem]) rfl ⟨rfl, by repeat (first | exact Below.refl _ _ | refine bl_alloc ?_ _ | refine bl_set ?_ (by simp) _)⟩

def sameEn (a b : En) : Bool := decide (a.i = b.i) && decide (a.r = b.r) && decide (a.m = b.m)
theorem run_neq_en (a b : En) (w : World) : (binOp .neq 30 (.agg #[.int .i64 a.i, .int .i64 a.r, .int .i64 a.m]) (.agg #[.int .i64 b.i, .int .i64 b.r, .int .i64 b.m])).run Try.prog w = .ok (.bool (!sameEn a b)) w := by
  simp [go_sem, sameEn]
  by_cases h1 : a.i = b.i <;> by_cases h2 : a.r = b.r <;> by_cases h3 : a.m = b.m <;> simp [h1, h2, h3]
/-- maps.Equal: as many keys, and each of one has the same in the other. -/
def eqE (a b : List En) : Bool := decide (a.length = b.length) && a.all fun x => (getE b x.i).isSome && sameEn x (oldE b x.i)

theorem mlen_run {w : World} {r : Nat} {es : List En} (h : MapOf enc1 w r (enL es)) (ty : TypeId) : (Builtin.len_ #[62] ty #[.map (some r)]).run Try.prog w = .ok (.int .i64 es.length) w := by
  obtain ⟨ees, cl, hb2, hsz⟩ := run_mlen h
  simp [Builtin.len_, run_underlying Try.underlying62, MapKept.run_getObj_map hb2, goInt, hsz, enL]
set_option maxRecDepth 100000 in
set_option maxHeartbeats 1000000 in
theorem equalMap_any (r1 r2 : Nat) (e1 e2 : List En) (w : World) (h1 : MapOf enc1 w r1 (enL e1)) (h2 : MapOf enc1 w r2 (enL e2)) :
    Calls Try.prog 43 #[.map (some r1), .map (some r2)] w fun e w' => e = .returned (.bool (eqE e1 e2)) ∧ Below w.heap.size w w' := by
  have hm1 := mlen_run h1
  have hm2 := mlen_run h2
  have H1 := Lib.hid h1
  have H2 := Lib.hid h2
  unfold eqE
  by_cases hne : e1.length = e2.length
  · obtain ⟨o, hrange, hR⟩ := run_range (P := Try.prog) Try.underlying62 h1
    have hnez : ((e1.length : Int) == (e2.length : Int)) = true := beq_iff_eq.2 (by omega)
    have HR := Lib.hid hR
    simp only [decide_eq_true hne, Bool.true_and]
    clear h1 h2 hR
    go_enter Try.func43, Try.ntmps43
    go_wp2_with fail
    generalize hW0 : w.alloc o = W0 at HR ⊢
    have hW0b : Below w.heap.size w W0 := hW0 ▸ bl_alloc (Below.refl _ _) _
    have hW0s : W0.heap.size = w.heap.size + 1 := by rw [← hW0]; simp
    have HW0 := Lib.hid hW0b
    have HS0 := Lib.hid hW0s
    clear hW0 hW0b hW0s hrange hm1 hm2 hnez
    go_loopg [4] e1.length (fun gg s4 wr => ∃ dn lf : List En, lf.length ≤ gg ∧ s4 = .bool false ∧ Aside ((dn ++ lf).Perm e1) ∧ Aside (RangeAt enc1 wr r1 w.heap.size (enL e1) (enL lf)) ∧ Aside (Below w.heap.size W0 wr) ∧ Aside (∀ x ∈ dn, ((getE e2 x.i).isSome && sameEn x (oldE e2 x.i)) = true))
    case atStart => exact ⟨[], e1, Nat.le_refl _, rfl, List.Perm.refl _, HR.out, Below.refl _ _, (show Aside _ from fun x hx => absurd hx (by simp))⟩
    case round =>
      obtain ⟨dn, lf, hgg, rfl, HP, HRG, HB, HOK⟩ := hrel
      rcases run_next (P := Try.prog) HRG.out with ⟨hl0, hrun⟩ | ⟨k, v', i, w2, hi, hrun, hR2, hent, hg2, hsz2⟩
      · have hlf : lf = [] := by cases lf with | nil => rfl | cons a b => simp [enL] at hl0
        subst hlf
        have hp := HP.out
        rw [List.append_nil] at hp
        have hall : (e1.all fun x => (getE e2 x.i).isSome && sameEn x (oldE e2 x.i)) = true := List.all_eq_true.2 fun x hx => HOK.out x (hp.mem_iff.2 hx)
        have HALL := Lib.hid hall
        clear hall hl0 hp hgg
        go_wp2_with fail
        go_ret
        exact ⟨by rw [HALL.out]; rfl, HW0.out.trans HB.out⟩
      · have hx : ∃ x, lf[i]? = some x ∧ k = x.i ∧ v' = x.val := by
          simp only [enL, List.getElem?_map] at hi
          obtain ⟨x, hx, he⟩ := Option.map_eq_some_iff.1 hi
          simp at he
          exact ⟨x, hx, he.1.symm, he.2.symm⟩
        obtain ⟨x, hx, rfl, rfl⟩ := hx
        unfold enc1 at hrun hent
        have hil : i < lf.length := (List.getElem?_eq_some_iff.1 hx).1
        have hperm := perm_eraseIdx lf i x hx
        have hp2 : ((dn ++ [x]) ++ lf.eraseIdx i).Perm e1 := by
          refine List.Perm.trans ?_ HP.out
          rw [List.append_assoc]
          exact (hperm.symm).append_left dn
        have hR3 : RangeAt enc1 w2 r1 w.heap.size (enL e1) (enL (lf.eraseIdx i)) := by
          have e : enL (lf.eraseIdx i) = (enL lf).eraseIdx i := by unfold enL; exact ChangeMaps.map_eraseIdx _ _ _
          rw [e]
          exact hR2
        have hB2 : Below w.heap.size W0 w2 := HB.out.grown hg2 (by have := HB.out.size; have := HS0.out; omega) (by intro k hk; cases hk; omega)
        have hmem : x ∈ e1 := hp2.mem_iff.1 (by simp)
        have hba := bl_alloc (Below.refl w2.heap.size w2) (.cells #[.int .i64 x.i, .int .i64 x.r, .int .i64 x.m] 30)
        have hlook := look_en ((H2.out.below (HW0.out.trans hB2)).below hba) x.i true
        simp only [if_true] at hlook
        have HP2 := Lib.hid hp2
        have HR3 := Lib.hid hR3
        have HB2 := Lib.hid hB2
        have HMEM := Lib.hid hmem
        cases hhas : (getE e2 x.i).isSome with
        | false =>
          rw [hhas] at hlook
          have hall : (e1.all fun x => (getE e2 x.i).isSome && sameEn x (oldE e2 x.i)) = false := List.all_eq_false.2 ⟨x, HMEM.out, by simp [hhas]⟩
          have HALL := Lib.hid hall
          clear hi hx hperm hp2 hR2 hR3 hB2 hmem HP HRG HB hg2 hsz2 hall hhas
          go_wp2_with fail
          go_ret
          exact ⟨by rw [HALL.out]; rfl, by repeat (first | exact HW0.out.trans HB2.out | refine bl_alloc ?_ _ | refine bl_set ?_ (by simp <;> omega) _)⟩
        | true =>
          rw [hhas] at hlook
          have hneq := fun w => run_neq_en x (oldE e2 x.i) w
          cases hsm : sameEn x (oldE e2 x.i) with
          | false =>
            rw [hsm] at hneq
            have hall : (e1.all fun x => (getE e2 x.i).isSome && sameEn x (oldE e2 x.i)) = false := List.all_eq_false.2 ⟨x, HMEM.out, by simp [hhas, hsm]⟩
            have HALL := Lib.hid hall
            generalize oldE e2 x.i = old at hlook hneq
            clear hi hx hperm hp2 hR2 hR3 hB2 hmem HP HRG HB hg2 hsz2 hall hhas hsm
            go_wp2_with fail
            go_ret
            exact ⟨by rw [HALL.out]; rfl, by repeat (first | exact HW0.out.trans HB2.out | refine bl_alloc ?_ _ | refine bl_set ?_ (by simp <;> omega) _)⟩
          | true =>
            rw [hsm] at hneq
            have hok2 : ∀ y ∈ dn ++ [x], ((getE e2 y.i).isSome && sameEn y (oldE e2 y.i)) = true := fun y hy => by
              rcases List.mem_append.1 hy with hy | hy
              · exact HOK.out y hy
              · simp at hy; subst hy; simp [hhas, hsm]
            have HOK2 := Lib.hid hok2
            generalize oldE e2 x.i = old at hlook hneq
            clear hi hx hperm hp2 hR2 hR3 hB2 hmem HP HRG HB hg2 hsz2 hhas hsm hok2
            go_wp2_with fail
            go_roundg (lf.length - 1)
            case measure => omega
            case rel =>
              refine ⟨dn ++ [x], lf.eraseIdx i, by rw [List.length_eraseIdx]; split <;> omega, rfl, HP2.out, HR3.out.below (by repeat (first | exact Below.refl _ _ | refine bl_alloc ?_ _ | refine bl_drewN ?_ _ | refine bl_drew ?_)), ?_, HOK2.out⟩
              exact HB2.out.trans ((show Below w2.heap.size w2 _ from by repeat (first | exact Below.refl _ _ | refine bl_alloc ?_ _ | refine bl_drewN ?_ _ | refine bl_drew ?_)).mono (by have := HB2.out.size; have := HS0.out; omega))
  · have hnez : ((e1.length : Int) == (e2.length : Int)) = false := beq_eq_false_iff_ne.2 (by omega)
    simp only [decide_eq_false hne, Bool.false_and]
    clear h1 h2
    go_enter Try.func43, Try.ntmps43
    go_wp2_with fail
    go_ret
    exact ⟨rfl, Below.refl _ _⟩
end Go.Proofs.Ytfnijjjfodpnnaa
