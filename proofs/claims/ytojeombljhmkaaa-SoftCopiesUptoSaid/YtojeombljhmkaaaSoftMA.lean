/- Texts put together: SoftBD, SoftBE, SoftBF, SoftBG, SoftBH, SoftBI, SoftBJ, SoftBK. -/
import Derived.Test.YtojeombljhmkaaaSoftBC
import Derived.Deep.RegionLaw
import Derived.Laws.StructEq
import Derived.Test.YtojeombljhmkaaaSoftY
import Derived.Test.YtojeombljhmkaaaSoftW
/- Soft: the document's Drop, Hear. -/
namespace Go.Proofs.Ytojeombljhmkaaa
open Go.RowKit Go.Shelf Go.Sort
set_option linter.unusedVariables false
set_option linter.unusedSimpArgs false
attribute [local go_sem] Oper.semAt_some
/-- What an answer of the document holds: the list as it was, or one of its own. -/
def RefIs (B : Nat) (v : Value) (L : List Th) (W : World) (u : Value) (L' : List Th) : Prop := (u = v ∧ L' = L) ∨ W.ownsRow B 35 4 u L'.length (L'.flatMap Th.cells)
theorem place_find_none {L : List Th} {s : ByteArray} (h : findL L s = none) : placeI L s = -1 := place_none fun x hx => by simpa using List.find?_eq_none.1 h x hx
theorem place_find_some {L : List Th} {s : ByteArray} {x : Th} (h : findL L s = some x) : ∃ k : Nat, placeI L s = (k : Int) ∧ L[k]? = some x ∧ k < L.length := by
  obtain ⟨hx, l, l2, hL, hn⟩ := List.find?_eq_some_iff_append.1 h
  have hk : L[l.length]? = some x := by rw [hL]; simp
  refine ⟨l.length, place_some hk (by simpa using hx) fun j y hj hy => ?_, hk, (List.getElem?_eq_some_iff.1 hk).1⟩
  have : l[j]? = some y := by rw [hL, List.getElem?_append_left hj] at hy; exact hy
  simpa using hn y (List.mem_of_getElem? this)
theorem set2 {w3 : World} {b : Nat} {t : TypeId} {a0 a1 : Value} (h : w3.heap[b]? = some (.cells #[a0, a1] t (0, 0))) (x y : Value) :
    ((w3.setCell ⟨b, 0, none⟩ x).setCell ⟨b, 1, none⟩ y).cell? ⟨b, 0, none⟩ = some x ∧ ((w3.setCell ⟨b, 0, none⟩ x).setCell ⟨b, 1, none⟩ y).cell? ⟨b, 1, none⟩ = some y := by
  have hfin := heap_set (o := 1) (v := y) (heap_set (o := 0) (v := x) h)
  have s0 := (cell_blk (o := 0) hfin)
  have s1 := (cell_blk (o := 1) hfin)
  simp at s0 s1
  exact ⟨s0, s1⟩
set_option maxRecDepth 100000 in
set_option maxHeartbeats 1000000 in
theorem rdrop_any (now : Int) (v : Value) (L : List Th) (s : ByteArray) (w : World) (h : SAt Th.cells 4 w v L) (hlen : L.length ≤ 1000000) :
    Calls Try.prog 42 #[.agg #[.int .i64 now, v], .string s] w fun e w' => ∃ u, e = .returned (.tuple #[.agg #[.int .i64 now, u], .int .i64 (dropL L s).2]) ∧ RefIs w.heap.size v L w' u (dropL L s).1 ∧ Below w.heap.size w w' := by
  obtain ⟨A, c, rfl⟩ := h.slice
  obtain ⟨F1, hF1⟩ : ∃ F, F = (dropL L s).1 := ⟨_, rfl⟩
  obtain ⟨F2, hF2⟩ : ∃ F, F = (dropL L s).2 := ⟨_, rfl⟩
  rw [← hF1, ← hF2]
  obtain ⟨Q, hQ⟩ : ∃ Q : Ending → World → Prop, Q = fun e w' => ∃ u, e = .returned (.tuple #[.agg #[.int .i64 now, u], .int .i64 F2]) ∧ RefIs w.heap.size (.slice A L.length c) L w' u F1 ∧ Below w.heap.size w w' := ⟨_, rfl⟩
  rw [← hQ]
  have HQ := Lib.hid hQ
  obtain ⟨wz, hwz⟩ : ∃ wz, wz = (w.alloc (.cells #[.int .i64 now, .slice A L.length c] 47)).alloc (.cells #[.int .i64 0, .slice none 0 0] 47) := ⟨_, rfl⟩
  have hbz : Below w.heap.size w wz := hwz ▸ bl_alloc (bl_alloc (Below.refl _ _) _) _
  have hk0 : wz.heap[w.heap.size]? = some (.cells #[.int .i64 now, .slice A L.length c] 47 (0, 0)) := by
    rw [hwz]
    exact ((bl_alloc (Below.refl _ _) _).block w.heap.size (by simp)).trans (at_alloc rfl)
  have hk1 : wz.heap[w.heap.size + 1]? = some (.cells #[.int .i64 0, .slice none 0 0] 47 (0, 0)) := by
    rw [hwz]
    exact at_alloc (by simp)
  have hzz : wz.heap.size = w.heap.size + 2 := by rw [hwz]; simp
  have HN := Lib.hid (rnamed_any s wz)
  have HFI := Lib.hid (rfind_any now _ L s wz (h.below hbz))
  have HWO : Hid (∀ W, Below w.heap.size w W → Calls _ _ _ W _) := Lib.hid fun W hW => rwithout_any now _ L s W (h.below hW) hlen
  have HK := Lib.hid (And.intro hk0 (And.intro hk1 hzz))
  have HWZ := Lib.hid hwz
  obtain ⟨x0, x1, x2, x3⟩ := cells2 hk0
  obtain ⟨y0, y1, y2, y3⟩ := cells2 hk1
  have HBZ := Lib.hid hbz
  have hfl := fld_L
  clear hQ h hk0 hk1 hbz hlen hwz hzz
  by_cases hq : namedB s = true
  · rw [hq] at HN
    cases hf : findL L s with
    | none =>
      have hd : dropL L s = (L, 5) := by unfold dropL; rw [if_pos hq, hf]
      rw [hd] at hF1 hF2
      rw [place_find_none hf] at HFI
      have HF1 := Lib.hid hF1
      subst hF2
      clear hd hf hq hF1
      go_enter Try.func42, Try.ntmps42
      go_wp2_with (first | (go_at_call 51; rw [← HWZ.out]; refine HN.out.mono ?_; rintro e w' ⟨rfl, rfl⟩) | (go_at_call 20; refine HFI.out.mono ?_; rintro e w3 ⟨rfl, hb⟩; have hk0 := (hb.block w.heap.size (by have := HK.out.2.2; omega)).trans HK.out.1; have hk1 := (hb.block (w.heap.size + 1) (by have := HK.out.2.2; omega)).trans HK.out.2.1; obtain ⟨x0, x1, x2, x3⟩ := cells2 hk0; obtain ⟨y0, y1, y2, y3⟩ := cells2 hk1; have HK1 := Lib.hid hk1; have HB1 := Lib.hid (bl_then HBZ.out hb); have hz3 : w.heap.size + 2 ≤ w3.heap.size := (by have := hb.size; have := HK.out.2.2; omega); clear hb hk0 hk1))
      obtain ⟨s0, s1⟩ := set2 HK1.out (.int .i64 now) (.slice A L.length c)
      refine bodyPost_ret (v := .tuple #[.agg #[.int .i64 now, .slice A L.length c], .int .i64 5]) (by simp [results, Try.results42, go_sem, s0, s1]) rfl ?_
      rw [HQ.out]
      exact ⟨_, rfl, .inl ⟨rfl, HF1.out⟩, bl_set (bl_set HB1.out (by simp) _) (by simp) _⟩
    | some x =>
      have hd : dropL L s = (delL L s, 0) := by unfold dropL; rw [if_pos hq, hf]
      obtain ⟨k, hp, hk, hkl⟩ := place_find_some hf
      rw [hd] at hF1 hF2
      rw [hp] at HFI
      have HF1 := Lib.hid hF1
      subst hF2
      have hkz : ¬ (k : Int) < 0 := by omega
      clear hd hf hq hF1 hp hk hkl
      go_enter Try.func42, Try.ntmps42
      go_wp2_with (first | (go_at_call 51; rw [← HWZ.out]; refine HN.out.mono ?_; rintro e w' ⟨rfl, rfl⟩) | (go_at_call 20; refine HFI.out.mono ?_; rintro e w3 ⟨rfl, hb⟩; have hk0 := (hb.block w.heap.size (by have := HK.out.2.2; omega)).trans HK.out.1; have hk1 := (hb.block (w.heap.size + 1) (by have := HK.out.2.2; omega)).trans HK.out.2.1; obtain ⟨x0, x1, x2, x3⟩ := cells2 hk0; obtain ⟨y0, y1, y2, y3⟩ := cells2 hk1; have HK1 := Lib.hid hk1; have HB1 := Lib.hid (bl_then HBZ.out hb); have hz3 : w.heap.size + 2 ≤ w3.heap.size := (by have := hb.size; have := HK.out.2.2; omega); clear hb hk0 hk1) | (go_at_call 53; refine (HWO.out w3 HB1.out).mono ?_; rintro e w4 ⟨⟨u, rfl, ho⟩, hb⟩; obtain ⟨A5, c5, rfl⟩ := own_form ho; have hk1 := (hb.block (w.heap.size + 1) (by omega)).trans HK1.out; obtain ⟨z0, z1, z2, z3⟩ := cells2 hk1; have HK4 := Lib.hid hk1; have HO := Lib.hid ho; have HB4 := Lib.hid (bl_then HB1.out hb); clear hb hk1 ho))
      obtain ⟨s0, s1⟩ := set2 HK4.out (.int .i64 now) (.slice A5 (delL L s).length c5)
      refine bodyPost_ret (v := .tuple #[.agg #[.int .i64 now, .slice A5 (delL L s).length c5], .int .i64 0]) (by simp [results, Try.results42, go_sem, s0, s1]) rfl ?_
      rw [HQ.out, HF1.out]
      exact ⟨_, rfl, .inr (own_mono (own_set (own_set HO.out (show w.heap.size + 1 < w3.heap.size by omega) _) (show w.heap.size + 1 < w3.heap.size by omega) _) (show w.heap.size ≤ w3.heap.size by omega)), bl_set (bl_set HB4.out (by simp) _) (by simp) _⟩
  · have hq' : namedB s = false := by simpa using hq
    have hd : dropL L s = (L, 2) := by unfold dropL; rw [if_neg hq]
    rw [hd] at hF1 hF2
    rw [hq'] at HN
    have HF1 := Lib.hid hF1
    subst hF2
    clear hd hq hF1 hq'
    go_enter Try.func42, Try.ntmps42
    go_wp2_with (first | (go_at_call 51; rw [← HWZ.out]; refine HN.out.mono ?_; rintro e w' ⟨rfl, rfl⟩))
    obtain ⟨s0, s1⟩ := set2 HK.out.2.1 (.int .i64 now) (.slice A L.length c)
    refine bodyPost_ret (v := .tuple #[.agg #[.int .i64 now, .slice A L.length c], .int .i64 2]) (by simp [results, Try.results42, go_sem, s0, s1]) rfl ?_
    rw [HQ.out]
    exact ⟨_, rfl, .inl ⟨rfl, HF1.out⟩, bl_set (bl_set HBZ.out (by simp) _) (by simp) _⟩
end Go.Proofs.Ytojeombljhmkaaa
/- Soft: the document's Hear. -/
namespace Go.Proofs.Ytojeombljhmkaaa
open Go.RowKit Go.Shelf Go.Sort
set_option linter.unusedVariables false
set_option linter.unusedSimpArgs false
attribute [local go_sem] Oper.semAt_some
theorem set4h {w : World} {b : Nat} {v0 v1 v2 v3 a0 a1 a2 a3 : Value} {t : TypeId} {fr : Nat × Nat} (h : w.heap[b]? = some (.cells #[v0, v1, v2, v3] t fr)) :
    ((((w.setCell ⟨b, 0, none⟩ a0).setCell ⟨b, 1, none⟩ a1).setCell ⟨b, 2, none⟩ a2).setCell ⟨b, 3, none⟩ a3).heap[b]? = some (.cells #[a0, a1, a2, a3] t fr) := by
  simp [World.setCell, Array.getElem?_modify, h]
/-- What is left of a document's operation: two boxes. -/
structure Boxes (w W : World) (now : Int) (v : Value) : Prop where
  bl : Below w.heap.size w W
  b0 : W.heap[w.heap.size]? = some (.cells #[.int .i64 now, v] 47 (0, 0))
  b1 : W.heap[w.heap.size + 1]? = some (.cells #[.int .i64 0, .slice none 0 0] 47 (0, 0))
theorem Boxes.size {w W : World} {now : Int} {v : Value} (h : Boxes w W now v) : w.heap.size + 2 ≤ W.heap.size := (Array.getElem?_eq_some_iff.1 h.b1).1
theorem Boxes.below {w W W' : World} {now : Int} {v : Value} (h : Boxes w W now v) (hb : Below W.heap.size W W') : Boxes w W' now v :=
  ⟨bl_then h.bl hb, (hb.block _ (by have := h.size; omega)).trans h.b0, (hb.block _ (by have := h.size; omega)).trans h.b1⟩
theorem boxes_new (w : World) (now : Int) (v : Value) : Boxes w ((w.alloc (.cells #[.int .i64 now, v] 47)).alloc (.cells #[.int .i64 0, .slice none 0 0] 47)) now v :=
  ⟨bl_alloc (bl_alloc (Below.refl _ _) _) _, ((bl_alloc (Below.refl _ _) _).block w.heap.size (by simp)).trans (at_alloc rfl), at_alloc (by simp)⟩
/-- The reads of the boxes. -/
theorem Boxes.reads {w W : World} {now : Int} {v : Value} (h : Boxes w W now v) :
    (W.cell? ⟨w.heap.size, 0, none⟩ = some (.int .i64 now) ∧ W.cell? ⟨w.heap.size, 1, none⟩ = some v ∧ W.frozen? ⟨w.heap.size, 0, none⟩ = false ∧ W.frozen? ⟨w.heap.size, 1, none⟩ = false) ∧
    (W.cell? ⟨w.heap.size + 1, 0, none⟩ = some (.int .i64 0) ∧ W.cell? ⟨w.heap.size + 1, 1, none⟩ = some (.slice none 0 0) ∧ W.frozen? ⟨w.heap.size + 1, 0, none⟩ = false ∧ W.frozen? ⟨w.heap.size + 1, 1, none⟩ = false) := ⟨cells2 h.b0, cells2 h.b1⟩
set_option maxRecDepth 100000 in
set_option maxHeartbeats 1000000 in
theorem rhear_any (now : Int) (v : Value) (L : List Th) (s : ByteArray) (w : World) (h : SAt Th.cells 4 w v L) (hlen : L.length ≤ 100000) (h0 : 0 ≤ now) (h1 : now ≤ 2147483647) :
    Calls Try.prog 41 #[.agg #[.int .i64 now, v], .string s] w fun e w' => ∃ u, e = .returned (.tuple #[.agg #[.int .i64 now, u], .int .i64 (hearL now L s).2]) ∧ RefIs w.heap.size v L w' u (hearL now L s).1 ∧ Below w.heap.size w w' := by
  obtain ⟨A, c, rfl⟩ := h.slice
  obtain ⟨F1, hF1⟩ : ∃ F, F = (hearL now L s).1 := ⟨_, rfl⟩
  obtain ⟨F2, hF2⟩ : ∃ F, F = (hearL now L s).2 := ⟨_, rfl⟩
  rw [← hF1, ← hF2]
  obtain ⟨Q, hQ⟩ : ∃ Q : Ending → World → Prop, Q = fun e w' => ∃ u, e = .returned (.tuple #[.agg #[.int .i64 now, u], .int .i64 F2]) ∧ RefIs w.heap.size (.slice A L.length c) L w' u F1 ∧ Below w.heap.size w w' := ⟨_, rfl⟩
  rw [← hQ]
  have HQ := Lib.hid hQ
  have hbx := boxes_new w now (.slice A L.length c)
  obtain ⟨wz, hwz⟩ : ∃ wz, wz = (w.alloc (.cells #[.int .i64 now, .slice A L.length c] 47)).alloc (.cells #[.int .i64 0, .slice none 0 0] 47) := ⟨_, rfl⟩
  rw [← hwz] at hbx
  have HN := Lib.hid (rnamed_any s wz)
  have HFI := Lib.hid (rfind_any now _ L s wz (h.below hbx.bl))
  have HS := Lib.hid h
  have HLEN := Lib.hid hlen
  have HBX := Lib.hid hbx
  have HWZ := Lib.hid hwz
  obtain ⟨⟨x0, x1, x2, x3⟩, y0, y1, y2, y3⟩ := hbx.reads
  have hfl := fld_L
  clear hQ h hbx hlen hwz
  by_cases hq : namedB s = true
  · rw [hq] at HN
    cases hf : findL L s with
    | none =>
      have hd : hearL now L s = (L, 5) := by unfold hearL; rw [if_pos hq, hf]
      rw [hd] at hF1 hF2
      rw [place_find_none hf] at HFI
      have HF1 := Lib.hid hF1
      subst hF2
      clear hd hf hq hF1
      go_enter Try.func41, Try.ntmps41
      go_wp2_with (first | (go_at_call 51; rw [← HWZ.out]; refine HN.out.mono ?_; rintro e w' ⟨rfl, rfl⟩) | (go_at_call 20; refine HFI.out.mono ?_; rintro e w3 ⟨rfl, hb⟩; obtain ⟨⟨x0, x1, x2, x3⟩, y0, y1, y2, y3⟩ := (HBX.out.below hb).reads; have HBX3 := Lib.hid (HBX.out.below hb); clear hb))
      obtain ⟨s0, s1⟩ := set2 HBX3.out.b1 (.int .i64 now) (.slice A L.length c)
      refine bodyPost_ret (v := .tuple #[.agg #[.int .i64 now, .slice A L.length c], .int .i64 5]) (by simp [results, Try.results41, go_sem, s0, s1]) rfl ?_
      rw [HQ.out]
      exact ⟨_, rfl, .inl ⟨rfl, HF1.out⟩, bl_set (bl_set HBX3.out.bl (by simp) _) (by simp) _⟩
    | some x =>
      have hd : hearL now L s = (withL L ⟨x.name, x.period, x.next, now + lifeI x.period⟩, 0) := by unfold hearL; rw [if_pos hq, hf]
      obtain ⟨k, hp, hk, hkl⟩ := place_find_some hf
      rw [hd] at hF1 hF2
      rw [hp] at HFI
      have HF1 := Lib.hid hF1
      subst hF2
      have hkz : ¬ (k : Int) < 0 := by omega
      have hkn : (k : Int) < (L.length : Int) := by omega
      have HKG := Lib.hid hk
      have hli : 0 ≤ lifeI x.period ∧ lifeI x.period ≤ 5250001 := by have := life_le x.period; omega
      obtain ⟨q, hq'⟩ : ∃ q, lifeI x.period = q := ⟨_, rfl⟩
      rw [hq'] at hli
      rw [hq'] at HF1
      have HW : Hid (IntKind.i64.wrap (now + q) = now + q) := Lib.hid (by rw [IntKind.wrap_i64]; omega)
      have HL := Lib.hid hq'
      clear hd hf hq hF1 hp hk h0 h1 hli hq'
      go_enter Try.func41, Try.ntmps41
      go_upto_region 6 with (first | (go_at_call 51; rw [← HWZ.out]; refine HN.out.mono ?_; rintro e w' ⟨rfl, rfl⟩) | (go_at_call 20; refine HFI.out.mono ?_; rintro e w3 ⟨rfl, hb⟩; obtain ⟨⟨x0, x1, x2, x3⟩, y0, y1, y2, y3⟩ := (HBX.out.below hb).reads; have HBX3 := Lib.hid (HBX.out.below hb); clear hb))
      rcases HS.out.below HBX3.out.bl with ⟨-, q2⟩ | ⟨b, o, c', q1, _, _, hrow⟩
      · subst q2; simp at hkl
      · simp only [Value.slice.injEq] at q1
        obtain ⟨rfl, -, rfl⟩ := q1
        obtain ⟨c0, c1, c2, c3⟩ := th_row hrow HKG.out
        clear hrow
        go_upto_region 7 with fail
        obtain ⟨w4, hw4⟩ : ∃ w4, w4 = w3.alloc (.cells #[.string x.name, .int .i64 x.period, .int .i64 x.next, .int .i64 x.forgot] 35) := ⟨_, rfl⟩
        rw [← hw4]
        have hb4 : Below w3.heap.size w3 w4 := hw4 ▸ bl_alloc (Below.refl _ _) _
        have hx4 : w4.heap[w3.heap.size]? = some (.cells #[.string x.name, .int .i64 x.period, .int .i64 x.next, .int .i64 x.forgot] 35 (0, 0)) := by rw [hw4]; exact at_alloc rfl
        obtain ⟨z0, z1, z2, z3, f0, f1, f2, f3⟩ := cells4 hx4
        obtain ⟨⟨x0, x1, x2, x3⟩, y0, y1, y2, y3⟩ := (HBX3.out.below hb4).reads
        have HX4 := Lib.hid (And.intro hb4 hx4)
        clear hb4 hx4 hw4 c0 c1 c2 c3
        first
        | go_region_law ((go_simp; refine (rlife_any x.period _).mono ?_; rintro e w5 ⟨rfl, rfl⟩; rw [HL.out]))
        | fail "law"
        all_goals rw [HW.out]
        all_goals
          have hx5 : ((w4.setCell ⟨w3.heap.size, 3, none⟩ (.int .i64 (now + q))).drew).heap[w3.heap.size]? = some (.cells #[.string x.name, .int .i64 x.period, .int .i64 x.next, .int .i64 (now + q)] 35 (0, 0)) := (heap_set HX4.out.2).trans rfl
          have hb5 : Below w3.heap.size w3 (w4.setCell ⟨w3.heap.size, 3, none⟩ (.int .i64 (now + q))).drew := bl_drew (bl_set HX4.out.1 (Nat.le_refl _) _)
          generalize (w4.setCell ⟨w3.heap.size, 3, none⟩ (.int .i64 (now + q))).drew = w5 at hx5 hb5 ⊢
          obtain ⟨z0, z1, z2, z3, f0, f1, f2, f3⟩ := cells4 hx5
          obtain ⟨⟨x0, x1, x2, x3⟩, y0, y1, y2, y3⟩ := (HBX3.out.below hb5).reads
          have HBX5 := Lib.hid (HBX3.out.below hb5)
          have HWI := Lib.hid (rwith_any now _ L ⟨x.name, x.period, x.next, now + q⟩ w5 (HS.out.below HBX5.out.bl) HLEN.out)
          clear hx5 hb5
          go_wp2_with (go_at_call 52; refine HWI.out.mono ?_; rintro e w6 ⟨⟨u, rfl, ho⟩, hb⟩; obtain ⟨A5, c5, rfl⟩ := own_form ho; obtain ⟨⟨x0, x1, x2, x3⟩, y0, y1, y2, y3⟩ := (HBX5.out.below hb).reads; have HBX6 := Lib.hid (HBX5.out.below hb); have HO := Lib.hid ho; clear hb ho)
          obtain ⟨s0, s1⟩ := set2 HBX6.out.b1 (.int .i64 now) (.slice A5 (withL L ⟨x.name, x.period, x.next, now + q⟩).length c5)
          refine bodyPost_ret (v := .tuple #[.agg #[.int .i64 now, .slice A5 (withL L ⟨x.name, x.period, x.next, now + q⟩).length c5], .int .i64 0]) (by simp [results, Try.results41, go_sem, s0, s1]) rfl ?_
          rw [HQ.out, HF1.out]
          have hz5 := HBX5.out.size
          exact ⟨_, rfl, .inr (own_mono (own_set (own_set HO.out (show w.heap.size + 1 < w5.heap.size by omega) _) (show w.heap.size + 1 < w5.heap.size by omega) _) (show w.heap.size ≤ w5.heap.size by omega)), bl_set (bl_set HBX6.out.bl (by simp) _) (by simp) _⟩
  · have hq' : namedB s = false := by simpa using hq
    have hd : hearL now L s = (L, 2) := by unfold hearL; rw [if_neg hq]
    rw [hd] at hF1 hF2
    rw [hq'] at HN
    have HF1 := Lib.hid hF1
    subst hF2
    clear hd hq hF1 hq'
    go_enter Try.func41, Try.ntmps41
    go_wp2_with (first | (go_at_call 51; rw [← HWZ.out]; refine HN.out.mono ?_; rintro e w' ⟨rfl, rfl⟩))
    obtain ⟨s0, s1⟩ := set2 HBX.out.b1 (.int .i64 now) (.slice A L.length c)
    refine bodyPost_ret (v := .tuple #[.agg #[.int .i64 now, .slice A L.length c], .int .i64 2]) (by simp [results, Try.results41, go_sem, s0, s1]) rfl ?_
    rw [HQ.out]
    exact ⟨_, rfl, .inl ⟨rfl, HF1.out⟩, bl_set (bl_set HBX.out.bl (by simp) _) (by simp) _⟩
end Go.Proofs.Ytojeombljhmkaaa
/- Soft: the document's Keep. -/
namespace Go.Proofs.Ytojeombljhmkaaa
open Go.RowKit Go.Shelf Go.Sort
set_option linter.unusedVariables false
set_option linter.unusedSimpArgs false
attribute [local go_sem] Oper.semAt_some
set_option maxRecDepth 100000 in
set_option maxHeartbeats 2000000 in
theorem rkeep_any (now : Int) (v : Value) (L : List Th) (s : ByteArray) (n : Int) (w : World) (h : SAt Th.cells 4 w v L) (hlen : L.length ≤ 100000) (h0 : 0 ≤ now) (h1 : now ≤ 2147483647) :
    Calls Try.prog 40 #[.agg #[.int .i64 now, v], .string s, .int .i64 n] w fun e w' => ∃ u, e = .returned (.tuple #[.agg #[.int .i64 now, u], .bool (keepL now L s n).2.1, .int .i64 (keepL now L s n).2.2]) ∧ RefIs w.heap.size v L w' u (keepL now L s n).1 ∧ Below w.heap.size w w' := by
  obtain ⟨A, c, rfl⟩ := h.slice
  obtain ⟨F1, hF1⟩ : ∃ F, F = (keepL now L s n).1 := ⟨_, rfl⟩
  obtain ⟨F2, hF2⟩ : ∃ F, F = (keepL now L s n).2.1 := ⟨_, rfl⟩
  obtain ⟨F3, hF3⟩ : ∃ F, F = (keepL now L s n).2.2 := ⟨_, rfl⟩
  rw [← hF1, ← hF2, ← hF3]
  obtain ⟨Q, hQ⟩ : ∃ Q : Ending → World → Prop, Q = fun e w' => ∃ u, e = .returned (.tuple #[.agg #[.int .i64 now, u], .bool F2, .int .i64 F3]) ∧ RefIs w.heap.size (.slice A L.length c) L w' u F1 ∧ Below w.heap.size w w' := ⟨_, rfl⟩
  rw [← hQ]
  have HQ := Lib.hid hQ
  have hbx := boxes_new w now (.slice A L.length c)
  obtain ⟨wz, hwz⟩ : ∃ wz, wz = (w.alloc (.cells #[.int .i64 now, .slice A L.length c] 47)).alloc (.cells #[.int .i64 0, .slice none 0 0] 47) := ⟨_, rfl⟩
  rw [← hwz] at hbx
  have HN := Lib.hid (rnamed_any s wz)
  have HLI := Lib.hid (rlife_any n wz)
  have HFI := Lib.hid (rfind_any now _ L s wz (h.below hbx.bl))
  have HS := Lib.hid h
  have HLEN := Lib.hid hlen
  have HBX := Lib.hid hbx
  have HWZ := Lib.hid hwz
  obtain ⟨⟨x0, x1, x2, x3⟩, y0, y1, y2, y3⟩ := hbx.reads
  have hfl := fld_L
  clear hQ h hbx hlen hwz
  by_cases hq : namedB s = true
  · rw [hq] at HN
    by_cases hl : lifeI n = 0
    · have hd : keepL now L s n = (L, false, 2) := by unfold keepL; rw [if_neg (fun h => h.2 hl)]
      rw [hd] at hF1 hF2 hF3
      rw [hl] at HLI
      have HF1 := Lib.hid hF1
      subst hF2 hF3
      clear hd hq hF1 hl
      go_enter Try.func40, Try.ntmps40
      go_wp2_with (first | (go_at_call 51; rw [← HWZ.out]; refine HN.out.mono ?_; rintro e w' ⟨rfl, rfl⟩) | (go_at_call 21; refine HLI.out.mono ?_; rintro e w' ⟨rfl, rfl⟩))
      obtain ⟨s0, s1⟩ := set2 HBX.out.b1 (.int .i64 now) (.slice A L.length c); refine bodyPost_ret (v := .tuple #[.agg #[.int .i64 now, .slice A L.length c], .bool false, .int .i64 2]) (by simp [results, Try.results40, go_sem, s0, s1]) rfl ?_; rw [HQ.out]; exact ⟨_, rfl, .inl ⟨rfl, HF1.out⟩, bl_set (bl_set HBX.out.bl (by simp) _) (by simp) _⟩
    · have hq0 : (lifeI n == 0) = false := beq_eq_false_iff_ne.2 hl
      have hn1 : 1 ≤ n ∧ n ≤ 1000000 := by have := mt life_zero.2 hl; omega
      have hli : 0 ≤ lifeI n ∧ lifeI n ≤ 5250001 := by have := life_le n; omega
      cases hf : findL L s with
      | none =>
        rw [place_find_none hf] at HFI
        by_cases h256 : 256 ≤ L.length
        · have hd : keepL now L s n = (L, false, 3) := by unfold keepL; rw [if_pos ⟨hq, hl⟩, hf]; exact if_pos h256
          rw [hd] at hF1 hF2 hF3
          generalize lifeI n = q at HLI hq0
          have HF1 := Lib.hid hF1
          subst hF2 hF3
          have hz : 256 ≤ (L.length : Int) := by omega
          clear hd hq hF1 hl hf h256 hli hn1
          go_enter Try.func40, Try.ntmps40
          go_upto_region 5 with (first | (go_at_call 51; rw [← HWZ.out]; refine HN.out.mono ?_; rintro e w' ⟨rfl, rfl⟩) | (go_at_call 21; refine HLI.out.mono ?_; rintro e w' ⟨rfl, rfl⟩) | (go_at_call 20; refine HFI.out.mono ?_; rintro e w3 ⟨rfl, hb⟩; obtain ⟨⟨x0, x1, x2, x3⟩, y0, y1, y2, y3⟩ := (HBX.out.below hb).reads; have HBX3 := Lib.hid (HBX.out.below hb); clear hb))
          obtain ⟨w4, hw4⟩ : ∃ w4, w4 = w3.alloc (.cells #[.string s, .int .i64 0, .int .i64 0, .int .i64 0] 35) := ⟨_, rfl⟩; rw [← hw4]; have hb4 : Below w3.heap.size w3 w4 := hw4 ▸ bl_alloc (Below.refl _ _) _; have hx4 : w4.heap[w3.heap.size]? = some (.cells #[.string s, .int .i64 0, .int .i64 0, .int .i64 0] 35 (0, 0)) := (by rw [hw4]; exact at_alloc rfl); obtain ⟨z0, z1, z2, z3, f0, f1, f2, f3⟩ := cells4 hx4; obtain ⟨⟨x0, x1, x2, x3⟩, y0, y1, y2, y3⟩ := (HBX3.out.below hb4).reads; have HX4 := Lib.hid (And.intro hb4 hx4); clear hb4 hx4 hw4
          go_wp2_with fail
          have HBX4 := Lib.hid (HBX3.out.below HX4.out.1)
          obtain ⟨s0, s1⟩ := set2 HBX4.out.b1 (.int .i64 now) (.slice A L.length c); refine bodyPost_ret (v := .tuple #[.agg #[.int .i64 now, .slice A L.length c], .bool false, .int .i64 3]) (by simp [results, Try.results40, go_sem, s0, s1]) rfl ?_; rw [HQ.out]; exact ⟨_, rfl, .inl ⟨rfl, HF1.out⟩, bl_set (bl_set HBX4.out.bl (by simp) _) (by simp) _⟩
        · have hd : keepL now L s n = (withL L ⟨s, n, now + n, now + lifeI n⟩, true, 0) := by unfold keepL; rw [if_pos ⟨hq, hl⟩, hf]; exact if_neg h256
          rw [hd] at hF1 hF2 hF3
          obtain ⟨q, hq'⟩ : ∃ q, lifeI n = q := ⟨_, rfl⟩
          rw [hq'] at HLI hq0 hF1 hli
          have HF1 := Lib.hid hF1
          subst hF2 hF3
          have hz : ¬ 256 ≤ (L.length : Int) := by omega
          have hn0 : ((0 : Int) != n) = true := by simp [bne_iff_ne]; omega
          have HW : Hid (IntKind.i64.wrap (now + q) = now + q) := Lib.hid (by rw [IntKind.wrap_i64]; omega)
          have HW2 : Hid (IntKind.i64.wrap (now + n) = now + n) := Lib.hid (by rw [IntKind.wrap_i64]; omega)
          have HL := Lib.hid hq'
          clear hd hq hF1 hl hf h256 hli hn1 hq' h0 h1
          go_enter Try.func40, Try.ntmps40
          go_upto_region 5 with (first | (go_at_call 51; rw [← HWZ.out]; refine HN.out.mono ?_; rintro e w' ⟨rfl, rfl⟩) | (go_at_call 21; refine HLI.out.mono ?_; rintro e w' ⟨rfl, rfl⟩) | (go_at_call 20; refine HFI.out.mono ?_; rintro e w3 ⟨rfl, hb⟩; obtain ⟨⟨x0, x1, x2, x3⟩, y0, y1, y2, y3⟩ := (HBX.out.below hb).reads; have HBX3 := Lib.hid (HBX.out.below hb); clear hb))
          obtain ⟨w4, hw4⟩ : ∃ w4, w4 = w3.alloc (.cells #[.string s, .int .i64 0, .int .i64 0, .int .i64 0] 35) := ⟨_, rfl⟩; rw [← hw4]; have hb4 : Below w3.heap.size w3 w4 := hw4 ▸ bl_alloc (Below.refl _ _) _; have hx4 : w4.heap[w3.heap.size]? = some (.cells #[.string s, .int .i64 0, .int .i64 0, .int .i64 0] 35 (0, 0)) := (by rw [hw4]; exact at_alloc rfl); obtain ⟨z0, z1, z2, z3, f0, f1, f2, f3⟩ := cells4 hx4; obtain ⟨⟨x0, x1, x2, x3⟩, y0, y1, y2, y3⟩ := (HBX3.out.below hb4).reads; have HX4 := Lib.hid (And.intro hb4 hx4); clear hb4 hx4 hw4
          go_upto_region 10 with fail
          (first | go_region_law (fail) | fail "law")
          all_goals
            rw [HW2.out]
            have hxd : (((w4.setCell ⟨w3.heap.size, 1, none⟩ (.int .i64 n)).setCell ⟨w3.heap.size, 2, none⟩ (.int .i64 (now + n))).drew).heap[w3.heap.size]? = some (.cells #[.string s, .int .i64 n, .int .i64 (now + n), .int .i64 0] 35 (0, 0)) := (heap_set (heap_set HX4.out.2)).trans rfl
            have hbd : Below w3.heap.size w3 ((w4.setCell ⟨w3.heap.size, 1, none⟩ (.int .i64 n)).setCell ⟨w3.heap.size, 2, none⟩ (.int .i64 (now + n))).drew := bl_drew (bl_set (bl_set HX4.out.1 (Nat.le_refl _) _) (Nat.le_refl _) _)
            generalize ((w4.setCell ⟨w3.heap.size, 1, none⟩ (.int .i64 n)).setCell ⟨w3.heap.size, 2, none⟩ (.int .i64 (now + n))).drew = wd at hxd hbd ⊢
            have HXD := Lib.hid (And.intro hbd hxd)
            clear hxd hbd x0 x1 x2 x3 y0 y1 y2 y3 z0 z1 z2 z3 f0 f1 f2 f3
            obtain ⟨z0, z1, z2, z3, f0, f1, f2, f3⟩ := cells4 HXD.out.2; obtain ⟨⟨x0, x1, x2, x3⟩, y0, y1, y2, y3⟩ := (HBX3.out.below HXD.out.1).reads; go_upto_region 11 with fail; (first | go_region_law ((go_simp; refine (rlife_any n _).mono ?_; rintro e w5 ⟨rfl, rfl⟩; rw [HL.out])) | fail "law"); all_goals (rw [HW.out]; have hx5 : ((wd.setCell ⟨w3.heap.size, 3, none⟩ (.int .i64 (now + q))).drew).heap[w3.heap.size]? = some (.cells #[.string s, .int .i64 n, .int .i64 (now + n), .int .i64 (now + q)] 35 (0, 0)) := (heap_set HXD.out.2).trans rfl; have hb5 : Below w3.heap.size w3 (wd.setCell ⟨w3.heap.size, 3, none⟩ (.int .i64 (now + q))).drew := bl_drew (bl_set HXD.out.1 (Nat.le_refl _) _); generalize (wd.setCell ⟨w3.heap.size, 3, none⟩ (.int .i64 (now + q))).drew = w5 at hx5 hb5 ⊢; clear x0 x1 x2 x3 y0 y1 y2 y3 z0 z1 z2 z3 f0 f1 f2 f3; obtain ⟨z0, z1, z2, z3, f0, f1, f2, f3⟩ := cells4 hx5; obtain ⟨⟨x0, x1, x2, x3⟩, y0, y1, y2, y3⟩ := (HBX3.out.below hb5).reads; have HBX5 := Lib.hid (HBX3.out.below hb5); have HWI := Lib.hid (rwith_any now _ L ⟨s, n, now + n, now + q⟩ w5 (HS.out.below HBX5.out.bl) HLEN.out); clear hx5 hb5; go_wp2_with (go_at_call 52; refine HWI.out.mono ?_; rintro e w6 ⟨⟨u, rfl, ho⟩, hb⟩; obtain ⟨A5, c5, rfl⟩ := own_form ho; obtain ⟨⟨x0, x1, x2, x3⟩, y0, y1, y2, y3⟩ := (HBX5.out.below hb).reads; have HBX6 := Lib.hid (HBX5.out.below hb); have HO := Lib.hid ho; clear hb ho); obtain ⟨s0, s1⟩ := set2 HBX6.out.b1 (.int .i64 now) (.slice A5 (withL L ⟨s, n, now + n, now + q⟩).length c5); refine bodyPost_ret (v := .tuple #[.agg #[.int .i64 now, .slice A5 (withL L ⟨s, n, now + n, now + q⟩).length c5], .bool true, .int .i64 0]) (by simp [results, Try.results40, go_sem, s0, s1, trivial]) rfl ?_; rw [HQ.out, HF1.out]; have hz5 := HBX5.out.size; exact ⟨_, rfl, .inr (own_mono (own_set (own_set HO.out (show w.heap.size + 1 < w5.heap.size by omega) _) (show w.heap.size + 1 < w5.heap.size by omega) _) (show w.heap.size ≤ w5.heap.size by omega)), bl_set (bl_set HBX6.out.bl (by simp) _) (by simp) _⟩)
      | some x =>
        obtain ⟨k, hp, hk, hkl⟩ := place_find_some hf
        have hd : keepL now L s n = (withL L ⟨x.name, n, if x.period = n then x.next else now + n, now + lifeI n⟩, false, 0) := by unfold keepL; rw [if_pos ⟨hq, hl⟩, hf]
        rw [hd] at hF1 hF2 hF3
        rw [hp] at HFI
        obtain ⟨q, hq'⟩ : ∃ q, lifeI n = q := ⟨_, rfl⟩
        rw [hq'] at HLI hq0 hF1 hli
        have hkz : ¬ (k : Int) < 0 := by omega
        have hkz2 : 0 ≤ (k : Int) := by omega
        have hkn : (k : Int) < (L.length : Int) := by omega
        have HKG := Lib.hid hk
        have HW : Hid (IntKind.i64.wrap (now + q) = now + q) := Lib.hid (by rw [IntKind.wrap_i64]; omega)
        have HW2 : Hid (IntKind.i64.wrap (now + n) = now + n) := Lib.hid (by rw [IntKind.wrap_i64]; omega)
        have HL := Lib.hid hq'
        subst hF2 hF3
        by_cases hpn : x.period = n
        · rw [if_pos hpn] at hF1
          have HF1 := Lib.hid hF1
          have HPN := Lib.hid hpn
          have hne : (n != n) = false := by simp
          clear hd hq hF1 hl hf hli hn1 hq' h0 h1 hp hk hpn
          go_enter Try.func40, Try.ntmps40
          go_upto_region 5 with (first | (go_at_call 51; rw [← HWZ.out]; refine HN.out.mono ?_; rintro e w' ⟨rfl, rfl⟩) | (go_at_call 21; refine HLI.out.mono ?_; rintro e w' ⟨rfl, rfl⟩) | (go_at_call 20; refine HFI.out.mono ?_; rintro e w3 ⟨rfl, hb⟩; obtain ⟨⟨x0, x1, x2, x3⟩, y0, y1, y2, y3⟩ := (HBX.out.below hb).reads; have HBX3 := Lib.hid (HBX.out.below hb); clear hb))
          obtain ⟨w4, hw4⟩ : ∃ w4, w4 = w3.alloc (.cells #[.string s, .int .i64 0, .int .i64 0, .int .i64 0] 35) := ⟨_, rfl⟩; rw [← hw4]; have hb4 : Below w3.heap.size w3 w4 := hw4 ▸ bl_alloc (Below.refl _ _) _; have hx4 : w4.heap[w3.heap.size]? = some (.cells #[.string s, .int .i64 0, .int .i64 0, .int .i64 0] 35 (0, 0)) := (by rw [hw4]; exact at_alloc rfl); obtain ⟨z0, z1, z2, z3, f0, f1, f2, f3⟩ := cells4 hx4; obtain ⟨⟨x0, x1, x2, x3⟩, y0, y1, y2, y3⟩ := (HBX3.out.below hb4).reads; have HX4 := Lib.hid (And.intro hb4 hx4); clear hb4 hx4 hw4
          rcases HS.out.below (HBX3.out.below HX4.out.1).bl with ⟨-, q2⟩ | ⟨b, o, c', q1, _, _, hrow⟩
          · subst q2; simp at hkl
          · simp only [Value.slice.injEq] at q1
            obtain ⟨rfl, -, rfl⟩ := q1
            obtain ⟨c0, c1, c2, c3⟩ := th_row hrow HKG.out
            rw [HPN.out] at c1
            clear hrow
            go_upto_region 9 with fail
            have hxd := set4h (a0 := .string x.name) (a1 := .int .i64 n) (a2 := .int .i64 x.next) (a3 := .int .i64 x.forgot) HX4.out.2
            have hbd := bl_set (bl_set (bl_set (bl_set HX4.out.1 (Nat.le_refl w3.heap.size) (p := ⟨w3.heap.size, 0, none⟩) (.string x.name)) (Nat.le_refl w3.heap.size) (p := ⟨w3.heap.size, 1, none⟩) (.int .i64 n)) (Nat.le_refl w3.heap.size) (p := ⟨w3.heap.size, 2, none⟩) (.int .i64 x.next)) (Nat.le_refl w3.heap.size) (p := ⟨w3.heap.size, 3, none⟩) (.int .i64 x.forgot)
            generalize ((((w4.setCell ⟨w3.heap.size, 0, none⟩ (.string x.name)).setCell ⟨w3.heap.size, 1, none⟩ (.int .i64 n)).setCell ⟨w3.heap.size, 2, none⟩ (.int .i64 x.next)).setCell ⟨w3.heap.size, 3, none⟩ (.int .i64 x.forgot)) = wd at hxd hbd ⊢
            have HXD := Lib.hid (And.intro hbd hxd)
            clear hxd hbd x0 x1 x2 x3 y0 y1 y2 y3 z0 z1 z2 z3 f0 f1 f2 f3 c0 c1 c2 c3
            obtain ⟨z0, z1, z2, z3, f0, f1, f2, f3⟩ := cells4 HXD.out.2; obtain ⟨⟨x0, x1, x2, x3⟩, y0, y1, y2, y3⟩ := (HBX3.out.below HXD.out.1).reads; go_upto_region 11 with fail; (first | go_region_law ((go_simp; refine (rlife_any n _).mono ?_; rintro e w5 ⟨rfl, rfl⟩; rw [HL.out])) | fail "law"); all_goals (rw [HW.out]; have hx5 : ((wd.setCell ⟨w3.heap.size, 3, none⟩ (.int .i64 (now + q))).drew).heap[w3.heap.size]? = some (.cells #[.string x.name, .int .i64 n, .int .i64 (x.next), .int .i64 (now + q)] 35 (0, 0)) := (heap_set HXD.out.2).trans rfl; have hb5 : Below w3.heap.size w3 (wd.setCell ⟨w3.heap.size, 3, none⟩ (.int .i64 (now + q))).drew := bl_drew (bl_set HXD.out.1 (Nat.le_refl _) _); generalize (wd.setCell ⟨w3.heap.size, 3, none⟩ (.int .i64 (now + q))).drew = w5 at hx5 hb5 ⊢; clear x0 x1 x2 x3 y0 y1 y2 y3 z0 z1 z2 z3 f0 f1 f2 f3; obtain ⟨z0, z1, z2, z3, f0, f1, f2, f3⟩ := cells4 hx5; obtain ⟨⟨x0, x1, x2, x3⟩, y0, y1, y2, y3⟩ := (HBX3.out.below hb5).reads; have HBX5 := Lib.hid (HBX3.out.below hb5); have HWI := Lib.hid (rwith_any now _ L ⟨x.name, n, x.next, now + q⟩ w5 (HS.out.below HBX5.out.bl) HLEN.out); clear hx5 hb5; go_wp2_with (go_at_call 52; refine HWI.out.mono ?_; rintro e w6 ⟨⟨u, rfl, ho⟩, hb⟩; obtain ⟨A5, c5, rfl⟩ := own_form ho; obtain ⟨⟨x0, x1, x2, x3⟩, y0, y1, y2, y3⟩ := (HBX5.out.below hb).reads; have HBX6 := Lib.hid (HBX5.out.below hb); have HO := Lib.hid ho; clear hb ho); obtain ⟨s0, s1⟩ := set2 HBX6.out.b1 (.int .i64 now) (.slice A5 (withL L ⟨x.name, n, x.next, now + q⟩).length c5); refine bodyPost_ret (v := .tuple #[.agg #[.int .i64 now, .slice A5 (withL L ⟨x.name, n, x.next, now + q⟩).length c5], .bool false, .int .i64 0]) (by simp [results, Try.results40, go_sem, s0, s1, hkz]) rfl ?_; rw [HQ.out, HF1.out]; have hz5 := HBX5.out.size; exact ⟨_, rfl, .inr (own_mono (own_set (own_set HO.out (show w.heap.size + 1 < w5.heap.size by omega) _) (show w.heap.size + 1 < w5.heap.size by omega) _) (show w.heap.size ≤ w5.heap.size by omega)), bl_set (bl_set HBX6.out.bl (by simp) _) (by simp) _⟩)
        · rw [if_neg hpn] at hF1
          have HF1 := Lib.hid hF1
          have hne : (x.period != n) = true := by simpa [bne_iff_ne] using hpn
          clear hd hq hF1 hl hf hli hn1 hq' h0 h1 hp hk hpn
          go_enter Try.func40, Try.ntmps40
          go_upto_region 5 with (first | (go_at_call 51; rw [← HWZ.out]; refine HN.out.mono ?_; rintro e w' ⟨rfl, rfl⟩) | (go_at_call 21; refine HLI.out.mono ?_; rintro e w' ⟨rfl, rfl⟩) | (go_at_call 20; refine HFI.out.mono ?_; rintro e w3 ⟨rfl, hb⟩; obtain ⟨⟨x0, x1, x2, x3⟩, y0, y1, y2, y3⟩ := (HBX.out.below hb).reads; have HBX3 := Lib.hid (HBX.out.below hb); clear hb))
          obtain ⟨w4, hw4⟩ : ∃ w4, w4 = w3.alloc (.cells #[.string s, .int .i64 0, .int .i64 0, .int .i64 0] 35) := ⟨_, rfl⟩; rw [← hw4]; have hb4 : Below w3.heap.size w3 w4 := hw4 ▸ bl_alloc (Below.refl _ _) _; have hx4 : w4.heap[w3.heap.size]? = some (.cells #[.string s, .int .i64 0, .int .i64 0, .int .i64 0] 35 (0, 0)) := (by rw [hw4]; exact at_alloc rfl); obtain ⟨z0, z1, z2, z3, f0, f1, f2, f3⟩ := cells4 hx4; obtain ⟨⟨x0, x1, x2, x3⟩, y0, y1, y2, y3⟩ := (HBX3.out.below hb4).reads; have HX4 := Lib.hid (And.intro hb4 hx4); clear hb4 hx4 hw4
          rcases HS.out.below (HBX3.out.below HX4.out.1).bl with ⟨-, q2⟩ | ⟨b, o, c', q1, _, _, hrow⟩
          · subst q2; simp at hkl
          · simp only [Value.slice.injEq] at q1
            obtain ⟨rfl, -, rfl⟩ := q1
            obtain ⟨c0, c1, c2, c3⟩ := th_row hrow HKG.out
            clear hrow
            go_upto_region 9 with fail
            have hxe := set4h (a0 := .string x.name) (a1 := .int .i64 x.period) (a2 := .int .i64 x.next) (a3 := .int .i64 x.forgot) HX4.out.2
            have hbe := bl_set (bl_set (bl_set (bl_set HX4.out.1 (Nat.le_refl w3.heap.size) (p := ⟨w3.heap.size, 0, none⟩) (.string x.name)) (Nat.le_refl w3.heap.size) (p := ⟨w3.heap.size, 1, none⟩) (.int .i64 x.period)) (Nat.le_refl w3.heap.size) (p := ⟨w3.heap.size, 2, none⟩) (.int .i64 x.next)) (Nat.le_refl w3.heap.size) (p := ⟨w3.heap.size, 3, none⟩) (.int .i64 x.forgot)
            generalize ((((w4.setCell ⟨w3.heap.size, 0, none⟩ (.string x.name)).setCell ⟨w3.heap.size, 1, none⟩ (.int .i64 x.period)).setCell ⟨w3.heap.size, 2, none⟩ (.int .i64 x.next)).setCell ⟨w3.heap.size, 3, none⟩ (.int .i64 x.forgot)) = we at hxe hbe ⊢
            clear x0 x1 x2 x3 y0 y1 y2 y3 z0 z1 z2 z3 f0 f1 f2 f3 c0 c1 c2 c3
            obtain ⟨z0, z1, z2, z3, f0, f1, f2, f3⟩ := cells4 hxe
            obtain ⟨⟨x0, x1, x2, x3⟩, y0, y1, y2, y3⟩ := (HBX3.out.below hbe).reads
            have HXE := Lib.hid (And.intro hbe hxe)
            clear hxe hbe
            go_upto_region 10 with fail
            (first | go_region_law (fail) | fail "law")
            all_goals
              rw [HW2.out]
              have hxd : (((we.setCell ⟨w3.heap.size, 1, none⟩ (.int .i64 n)).setCell ⟨w3.heap.size, 2, none⟩ (.int .i64 (now + n))).drew).heap[w3.heap.size]? = some (.cells #[.string x.name, .int .i64 n, .int .i64 (now + n), .int .i64 x.forgot] 35 (0, 0)) := (heap_set (heap_set HXE.out.2)).trans rfl
              have hbd : Below w3.heap.size w3 ((we.setCell ⟨w3.heap.size, 1, none⟩ (.int .i64 n)).setCell ⟨w3.heap.size, 2, none⟩ (.int .i64 (now + n))).drew := bl_drew (bl_set (bl_set HXE.out.1 (Nat.le_refl _) _) (Nat.le_refl _) _)
              generalize ((we.setCell ⟨w3.heap.size, 1, none⟩ (.int .i64 n)).setCell ⟨w3.heap.size, 2, none⟩ (.int .i64 (now + n))).drew = wd at hxd hbd ⊢
              have HXD := Lib.hid (And.intro hbd hxd)
              clear hxd hbd x0 x1 x2 x3 y0 y1 y2 y3 z0 z1 z2 z3 f0 f1 f2 f3
              obtain ⟨z0, z1, z2, z3, f0, f1, f2, f3⟩ := cells4 HXD.out.2; obtain ⟨⟨x0, x1, x2, x3⟩, y0, y1, y2, y3⟩ := (HBX3.out.below HXD.out.1).reads; go_upto_region 11 with fail; (first | go_region_law ((go_simp; refine (rlife_any n _).mono ?_; rintro e w5 ⟨rfl, rfl⟩; rw [HL.out])) | fail "law"); all_goals (rw [HW.out]; have hx5 : ((wd.setCell ⟨w3.heap.size, 3, none⟩ (.int .i64 (now + q))).drew).heap[w3.heap.size]? = some (.cells #[.string x.name, .int .i64 n, .int .i64 (now + n), .int .i64 (now + q)] 35 (0, 0)) := (heap_set HXD.out.2).trans rfl; have hb5 : Below w3.heap.size w3 (wd.setCell ⟨w3.heap.size, 3, none⟩ (.int .i64 (now + q))).drew := bl_drew (bl_set HXD.out.1 (Nat.le_refl _) _); generalize (wd.setCell ⟨w3.heap.size, 3, none⟩ (.int .i64 (now + q))).drew = w5 at hx5 hb5 ⊢; clear x0 x1 x2 x3 y0 y1 y2 y3 z0 z1 z2 z3 f0 f1 f2 f3; obtain ⟨z0, z1, z2, z3, f0, f1, f2, f3⟩ := cells4 hx5; obtain ⟨⟨x0, x1, x2, x3⟩, y0, y1, y2, y3⟩ := (HBX3.out.below hb5).reads; have HBX5 := Lib.hid (HBX3.out.below hb5); have HWI := Lib.hid (rwith_any now _ L ⟨x.name, n, now + n, now + q⟩ w5 (HS.out.below HBX5.out.bl) HLEN.out); clear hx5 hb5; go_wp2_with (go_at_call 52; refine HWI.out.mono ?_; rintro e w6 ⟨⟨u, rfl, ho⟩, hb⟩; obtain ⟨A5, c5, rfl⟩ := own_form ho; obtain ⟨⟨x0, x1, x2, x3⟩, y0, y1, y2, y3⟩ := (HBX5.out.below hb).reads; have HBX6 := Lib.hid (HBX5.out.below hb); have HO := Lib.hid ho; clear hb ho); obtain ⟨s0, s1⟩ := set2 HBX6.out.b1 (.int .i64 now) (.slice A5 (withL L ⟨x.name, n, now + n, now + q⟩).length c5); refine bodyPost_ret (v := .tuple #[.agg #[.int .i64 now, .slice A5 (withL L ⟨x.name, n, now + n, now + q⟩).length c5], .bool false, .int .i64 0]) (by simp [results, Try.results40, go_sem, s0, s1, hkz]) rfl ?_; rw [HQ.out, HF1.out]; have hz5 := HBX5.out.size; exact ⟨_, rfl, .inr (own_mono (own_set (own_set HO.out (show w.heap.size + 1 < w5.heap.size by omega) _) (show w.heap.size + 1 < w5.heap.size by omega) _) (show w.heap.size ≤ w5.heap.size by omega)), bl_set (bl_set HBX6.out.bl (by simp) _) (by simp) _⟩)
  · have hq' : namedB s = false := by simpa using hq
    have hd : keepL now L s n = (L, false, 2) := by unfold keepL; rw [if_neg (fun h => hq h.1)]
    rw [hd] at hF1 hF2 hF3
    rw [hq'] at HN
    have HF1 := Lib.hid hF1
    subst hF2 hF3
    clear hd hq hF1 hq'
    go_enter Try.func40, Try.ntmps40
    go_wp2_with (first | (go_at_call 51; rw [← HWZ.out]; refine HN.out.mono ?_; rintro e w' ⟨rfl, rfl⟩))
    obtain ⟨s0, s1⟩ := set2 HBX.out.b1 (.int .i64 now) (.slice A L.length c); refine bodyPost_ret (v := .tuple #[.agg #[.int .i64 now, .slice A L.length c], .bool false, .int .i64 2]) (by simp [results, Try.results40, go_sem, s0, s1]) rfl ?_; rw [HQ.out]; exact ⟨_, rfl, .inl ⟨rfl, HF1.out⟩, bl_set (bl_set HBX.out.bl (by simp) _) (by simp) _⟩
end Go.Proofs.Ytojeombljhmkaaa
/- Soft: plain facts for the document's Go. -/
namespace Go.Proofs.Ytojeombljhmkaaa
open Go.RowKit Go.Shelf Go.Sort
set_option linter.unusedVariables false
set_option linter.unusedSimpArgs false
/-- Rows of two types do not meet. -/
theorem own_apart {w w' : World} {b1 b2 e1 e2 k1 k2 n1 n2 : Nat} {v1 v2 : Value} {c1 c2 : List Value} (h1 : w.ownsRow b1 e1 k1 v1 n1 c1) (h2 : w.ownsRow b2 e2 k2 v2 n2 c2) (he : e1 ≠ e2) (hg : w.grownBy w' v1.ownBlock) : w'.ownsRow b2 e2 k2 v2 n2 c2 := by
  refine h2.kept hg ?_
  rcases h2.2 with ⟨rfl, -⟩ | ⟨g2, cap2, cur2, rfl, -, h3, -⟩
  · exact .inl rfl
  · refine .inr fun h => ?_
    rcases h1.2 with ⟨rfl, -⟩ | ⟨g1, cap1, cur1, rfl, -, h4, -⟩
    · cases h
    · simp only [Value.ownBlock, Option.some.injEq] at h
      subst h
      rw [h3] at h4
      injection h4 with h4
      injection h4 with _ h5 _
      exact he h5.symm
/-- The first of the least among the first i that are forgotten. -/
def PickI (n : Int) (L : List Th) (i : Nat) (k : Int) : Prop :=
  (k = -1 ∧ ∀ j y, j < i → L[j]? = some y → ¬ y.forgot ≤ n) ∨
  ∃ (kk : Nat) (x : Th), k = (kk : Int) ∧ kk < i ∧ L[kk]? = some x ∧ x.forgot ≤ n ∧ ∀ j y, j < i → L[j]? = some y → y.forgot ≤ n → x.forgot < y.forgot ∨ (x.forgot = y.forgot ∧ kk ≤ j)
theorem pick_zero (n : Int) (L : List Th) : PickI n L 0 (-1) := .inl ⟨rfl, fun j y hj => absurd hj (by omega)⟩
/-- Is the i-th one taken? -/
def betterB (n : Int) (L : List Th) (k : Int) (y : Th) : Bool := decide (y.forgot ≤ n) && (decide (k < 0) || (match L[k.toNat]? with | some x => decide (y.forgot < x.forgot) | none => false))
theorem pick_next {n : Int} {L : List Th} {i : Nat} {k : Int} {y : Th} (h : PickI n L i k) (hy : L[i]? = some y) : PickI n L (i + 1) (if betterB n L k y = true then (i : Int) else k) := by
  rcases h with ⟨rfl, h⟩ | ⟨kk, x, rfl, hki, hx, hxn, h⟩
  · by_cases hyn : y.forgot ≤ n
    · rw [if_pos (by simp [betterB, hyn])]
      refine .inr ⟨i, y, rfl, by omega, hy, hyn, fun j z hj hz hzn => ?_⟩
      rcases Nat.lt_succ_iff_lt_or_eq.1 hj with h1 | rfl
      · exact absurd hzn (h j z h1 hz)
      · rw [hy] at hz; cases hz; exact .inr ⟨rfl, Nat.le_refl _⟩
    · rw [if_neg (by simp [betterB, hyn])]
      refine .inl ⟨rfl, fun j z hj hz => ?_⟩
      rcases Nat.lt_succ_iff_lt_or_eq.1 hj with h1 | rfl
      · exact h j z h1 hz
      · rw [hy] at hz; cases hz; exact hyn
  · have hxt : L[(kk : Int).toNat]? = some x := hx
    by_cases hb : y.forgot ≤ n ∧ y.forgot < x.forgot
    · rw [if_pos (by unfold betterB; rw [hxt]; simp [hb.1, hb.2])]
      refine .inr ⟨i, y, rfl, by omega, hy, hb.1, fun j z hj hz hzn => ?_⟩
      rcases Nat.lt_succ_iff_lt_or_eq.1 hj with h1 | rfl
      · rcases h j z h1 hz hzn with h2 | ⟨h2, -⟩ <;> exact .inl (by omega)
      · rw [hy] at hz; cases hz; exact .inr ⟨rfl, Nat.le_refl _⟩
    · have hnb : betterB n L (kk : Int) y = false := by
        unfold betterB
        rw [hxt]
        simp only [Bool.and_eq_false_iff, Bool.or_eq_false_iff, decide_eq_false_iff_not]
        by_cases h1 : y.forgot ≤ n
        · exact .inr ⟨by omega, by omega⟩
        · exact .inl h1
      rw [if_neg (by rw [hnb]; decide)]
      refine .inr ⟨kk, x, rfl, by omega, hx, hxn, fun j z hj hz hzn => ?_⟩
      rcases Nat.lt_succ_iff_lt_or_eq.1 hj with h1 | rfl
      · exact h j z h1 hz hzn
      · rw [hy] at hz; cases hz
        by_cases h1 : x.forgot < y.forgot
        · exact .inl h1
        · exact .inr ⟨by omega, by omega⟩
theorem byName_ne {L : List Th} (h : ByName L) {i j : Nat} {x y : Th} (hi : L[i]? = some x) (hj : L[j]? = some y) (he : x.name = y.name) : i = j := by
  obtain ⟨hi', rfl⟩ := List.getElem?_eq_some_iff.1 hi
  obtain ⟨hj', rfl⟩ := List.getElem?_eq_some_iff.1 hj
  have hp := List.pairwise_iff_getElem.1 h
  rcases Nat.lt_trichotomy i j with h1 | h1 | h1
  · have := hp i j hi' hj' h1; rw [he, ltS_irrefl] at this; cases this
  · exact h1
  · have := hp j i hj' hi' h1; rw [he, ltS_irrefl] at this; cases this
/-- What was gone so far, what is left. -/
structure GoneTo (n : Int) (L G M : List Th) : Prop where
  rest : ∀ G', GoneL n M G' → GoneL n L (G ++ G')
  stay : M.filter (fun x => !decide (x.forgot ≤ n)) = L.filter (fun x => !decide (x.forgot ≤ n))
  sort : ByName M
  sub : ∀ x ∈ M, x ∈ L
  len : G.length + M.length = L.length
theorem gone_start (n : Int) {L : List Th} (h : ByName L) : GoneTo n L [] L := ⟨fun G' h => h, rfl, h, fun x h => h, by simp⟩
theorem delL_split {L : List Th} (h : ByName L) {k : Nat} {x : Th} (hk : L[k]? = some x) : delL L x.name = L.take k ++ L.drop (k + 1) := by
  have hkl := (List.getElem?_eq_some_iff.1 hk).1
  have hd := List.drop_eq_getElem_cons hkl
  have hx : L[k] = x := (List.getElem?_eq_some_iff.1 hk).2
  have hL : L.take k ++ x :: L.drop (k + 1) = L := by rw [← hx, ← hd, List.take_append_drop]
  have h1 : (L.take k).filter (fun y => decide (y.name ≠ x.name)) = L.take k := List.filter_eq_self.2 fun y hy => by
    obtain ⟨j, hj⟩ := List.getElem?_of_mem hy
    have hjk : j < k := by have := (List.getElem?_eq_some_iff.1 hj).1; simp at this; omega
    rw [List.getElem?_take_of_lt hjk] at hj
    simpa using fun e => by have := byName_ne h hj hk e; omega
  have h2 : (L.drop (k + 1)).filter (fun y => decide (y.name ≠ x.name)) = L.drop (k + 1) := List.filter_eq_self.2 fun y hy => by
    obtain ⟨j, hj⟩ := List.getElem?_of_mem hy
    rw [List.getElem?_drop] at hj
    simpa using fun e => by have := byName_ne h hj hk e; omega
  show L.filter (fun y => decide (y.name ≠ x.name)) = _
  conv => lhs; rw [← hL]
  rw [List.filter_append, List.filter_cons_of_neg (by simp), h1, h2]
theorem gone_next {n : Int} {L G M : List Th} (h : GoneTo n L G M) {k : Nat} {x : Th} (hk : M[k]? = some x) (hp : PickI n M M.length k) : GoneTo n L (G ++ [x]) (delL M x.name) := by
  rcases hp with ⟨h1, -⟩ | ⟨kk, x', h1, h2, h3, hxn, hmin⟩
  · omega
  · obtain rfl : k = kk := by omega
    rw [h3] at hk
    cases hk
    have hkl := (List.getElem?_eq_some_iff.1 h3).1
    have hd := List.drop_eq_getElem_cons hkl
    have hx : M[k] = x := (List.getElem?_eq_some_iff.1 h3).2
    have hM : M.take k ++ x :: M.drop (k + 1) = M := by rw [← hx, ← hd, List.take_append_drop]
    have hsp := delL_split h.sort h3
    refine ⟨fun G' hG' => ?_, ?_, h.sort.filter _, fun y hy => h.sub y (List.mem_filter.1 hy).1, ?_⟩
    · rw [List.append_assoc]
      refine h.rest _ ⟨?_, List.pairwise_cons.2 ⟨fun y hy => ?_, hG'.2⟩⟩
      · have h5 := hG'.1
        rw [hsp, List.filter_append] at h5
        conv => rhs; rw [← hM]
        rw [List.filter_append, List.filter_cons_of_pos (by simpa using hxn)]
        exact (List.Perm.cons x h5).trans (List.perm_middle.symm)
      · have hy2 := (hG'.1.mem_iff.1 hy)
        obtain ⟨hy3, hy4⟩ := List.mem_filter.1 hy2
        obtain ⟨hy5, hy6⟩ := List.mem_filter.1 hy3
        obtain ⟨j, hj⟩ := List.getElem?_of_mem hy5
        have hjl := (List.getElem?_eq_some_iff.1 hj).1
        have hne : y.name ≠ x.name := by simpa using hy6
        rcases hmin j y hjl hj (by simpa using hy4) with h7 | ⟨h7, h8⟩
        · simp [ltL, h7]
        · have hkj : k < j := by
            rcases Nat.lt_or_eq_of_le h8 with h9 | h9
            · exact h9
            · subst h9; rw [h3] at hj; cases hj; exact absurd rfl hne
          have hlt : ltS x.name y.name = true := by
            obtain ⟨hj', rfl⟩ := List.getElem?_eq_some_iff.1 hj
            have := List.pairwise_iff_getElem.1 h.sort k j hkl hj' hkj
            rw [hx] at this
            exact this
          simp [ltL, h7, hlt]
    · rw [← h.stay, hsp, List.filter_append]
      conv => rhs; rw [← hM]
      rw [List.filter_append, List.filter_cons_of_neg (by simpa using hxn)]
    · rw [hsp]
      have h9 := congrArg List.length hM
      have := h.len
      simp only [List.length_append, List.length_cons, List.length_nil] at h9 ⊢
      omega
theorem gone_end {n : Int} {L G M : List Th} (hL : ByName L) (h : GoneTo n L G M) (hp : PickI n M M.length (-1)) : G = goneL n L ∧ M = L.filter (fun x => !decide (x.forgot ≤ n)) := by
  rcases hp with ⟨-, hp⟩ | ⟨kk, x, h1, -⟩
  · have h1 : ∀ y ∈ M, ¬ y.forgot ≤ n := fun y hy => by
      obtain ⟨j, hj⟩ := List.getElem?_of_mem hy
      exact hp j y (List.getElem?_eq_some_iff.1 hj).1 hj
    have h2 : M.filter (fun x => decide (x.forgot ≤ n)) = [] := List.filter_eq_nil_iff.2 fun y hy => by simpa using h1 y hy
    have h3 := h.rest [] (by unfold GoneL; rw [h2]; exact ⟨List.Perm.refl _, List.Pairwise.nil⟩)
    rw [List.append_nil] at h3
    refine ⟨isF_eq h3 (goneL_is hL), ?_⟩
    rw [← h.stay]
    exact (List.filter_eq_self.2 fun y hy => by simpa using h1 y hy).symm
  · omega
theorem with_at {A B : List Th} {x x' : Th} (h : ByName (A ++ x :: B)) (he : x'.name = x.name) : withL (A ++ x :: B) x' = A ++ x' :: B := by
  have hk : (A ++ x :: B)[A.length]? = some x := by simp
  have hd := delL_split h hk
  have hd2 : delL (A ++ x :: B) x'.name = A ++ B := by rw [he, hd]; simp
  show insL x' (delL (A ++ x :: B) x'.name) = _
  rw [hd2]
  have hcut := insL_cut (x := x') (l := A ++ B) (k := A.length) (by simp) (fun j y hj hy => ?_) (fun y hy => ?_)
  · rw [hcut]; simp
  · rw [List.getElem?_append_left hj] at hy
    have hy2 : (A ++ x :: B)[j]? = some y := by rw [List.getElem?_append_left hj]; exact hy
    obtain ⟨h1, rfl⟩ := List.getElem?_eq_some_iff.1 hy2
    have := List.pairwise_iff_getElem.1 h j A.length h1 (by simp) hj
    rw [he]
    simpa using this
  · rw [List.getElem?_append_right (Nat.le_refl _), Nat.sub_self] at hy
    cases B with
    | nil => simp at hy
    | cons b B =>
      simp at hy
      subst hy
      have := List.pairwise_append.1 h
      have h2 := (List.pairwise_cons.1 this.2.1).1 b (by simp)
      rw [he]
      cases h3 : ltS b.name x.name with
      | false => rfl
      | true => have := ltS_trans h2 h3; rw [ltS_irrefl] at this; cases this
theorem goTo_step {n : Int} {l : List Th} {k : Nat} {x : Th} (hk : l[k]? = some x) : (l.take (k + 1)).map (saidT n) ++ l.drop (k + 1) = (l.take k).map (saidT n) ++ saidT n x :: l.drop (k + 1) := by
  rw [← take_snoc' hk, List.map_append]
  simp
theorem said_with {n : Int} {l : List Th} {k : Nat} {x : Th} (hl : ByName l) (hk : l[k]? = some x) (hx : x.next ≤ n) : withL ((l.take k).map (saidT n) ++ l.drop k) ⟨x.name, x.period, n + x.period, x.forgot⟩ = (l.take (k + 1)).map (saidT n) ++ l.drop (k + 1) := by
  obtain ⟨hkl, hxe⟩ := List.getElem?_eq_some_iff.1 hk
  have hd : l.drop k = x :: l.drop (k + 1) := by rw [← hxe]; exact List.drop_eq_getElem_cons hkl
  rw [goTo_step hk, hd]
  have hs : saidT n x = ⟨x.name, x.period, n + x.period, x.forgot⟩ := by unfold saidT; rw [if_pos hx]
  rw [hs]
  refine with_at ?_ rfl
  have h1 : ByName (l.take k ++ x :: l.drop (k + 1)) := by rw [← hd, List.take_append_drop]; exact hl
  obtain ⟨p1, p2, p3⟩ := List.pairwise_append.1 h1
  refine List.pairwise_append.2 ⟨List.pairwise_map.2 (p1.imp fun {a b} h => by rw [saidT_name, saidT_name]; exact h), p2, fun a ha b hb => ?_⟩
  obtain ⟨a', ha', rfl⟩ := List.mem_map.1 ha
  rw [saidT_name]
  exact p3 a' ha' b hb
theorem said_not {n : Int} {l : List Th} {k : Nat} {x : Th} (hk : l[k]? = some x) (hx : ¬ x.next ≤ n) : (l.take k).map (saidT n) ++ l.drop k = (l.take (k + 1)).map (saidT n) ++ l.drop (k + 1) := by
  obtain ⟨hkl, hxe⟩ := List.getElem?_eq_some_iff.1 hk
  have hd : l.drop k = x :: l.drop (k + 1) := by rw [← hxe]; exact List.drop_eq_getElem_cons hkl
  have hs : saidT n x = x := by unfold saidT; rw [if_neg hx]
  rw [goTo_step hk, hd, hs]
end Go.Proofs.Ytojeombljhmkaaa
/- Soft: the document's Go: what holds in its loops. -/
namespace Go.Proofs.Ytojeombljhmkaaa
open Go.RowKit Go.Shelf Go.Sort
set_option linter.unusedVariables false
set_option linter.unusedSimpArgs false
attribute [local go_sem] Oper.semAt_some
theorem RefIs.below {B : Nat} {v u : Value} {L M : List Th} {W W' : World} (h : RefIs B v L W u M) (hb : Below W.heap.size W W') : RefIs B v L W' u M := h.imp (fun h => h) fun h => own_lies h hb
theorem RefIs.set {B : Nat} {v u : Value} {L M : List Th} {W : World} {q : Addr} (h : RefIs B v L W u M) (hq : q.block < B) (x : Value) : RefIs B v L (W.setCell q x) u M := h.imp (fun h => h) fun h => own_set h hq x
theorem RefIs.mono {B B' : Nat} {v u : Value} {L M : List Th} {W : World} (h : RefIs B v L W u M) (hb : B' ≤ B) : RefIs B' v L W u M := h.imp (fun h => h) fun h => own_mono h hb
theorem RefIs.sat {B : Nat} {v u : Value} {L M : List Th} {w W : World} (h : RefIs B v L W u M) (hv : SAt Th.cells 4 w v L) (hb : Below w.heap.size w W) : SAt Th.cells 4 W u M := by
  rcases h with ⟨rfl, rfl⟩ | h
  · exact hv.below hb
  · exact own_sat h
theorem RefIs.grown {B B1 k1 n1 : Nat} {v u v1 : Value} {L M : List Th} {W W' : World} {c1 : List Value} (h : RefIs B v L W u M) (h1 : W.ownsRow B1 9 k1 v1 n1 c1) (hg : W.grownBy W' v1.ownBlock) : RefIs B v L W' u M := h.imp (fun h => h) fun h => own_apart h1 h (by decide) hg
theorem own_far {w w' : World} {b1 b2 e1 e2 k1 k2 n1 n2 : Nat} {v1 v2 : Value} {c1 c2 : List Value} (h1 : w.ownsRow b1 e1 k1 v1 n1 c1) (h2 : w.ownsRow b2 e2 k2 v2 n2 c2) (hf : ∀ j, v2.ownBlock = some j → j < b1) (hg : w.grownBy w' v1.ownBlock) : w'.ownsRow b2 e2 k2 v2 n2 c2 := by
  refine h2.kept hg ?_
  cases h3 : v2.ownBlock with
  | none => exact .inl rfl
  | some j =>
    refine .inr fun h4 => ?_
    have h5 := hf j h3
    have h6 := (h1.lt j h4.symm).1
    omega
theorem Boxes.grown {w W W' : World} {n : Int} {u v1 : Value} {B1 e1 k1 n1 : Nat} {c1 : List Value} (h : Boxes w W n u) (h1 : W.ownsRow B1 e1 k1 v1 n1 c1) (hB : w.heap.size + 2 ≤ B1) (hg : W.grownBy W' v1.ownBlock) : Boxes w W' n u := by
  have hz := h.size
  refine ⟨h.bl.grown hg h.bl.size fun j hj => by have := (h1.lt j hj).1; omega, ?_, ?_⟩
  · rw [hg.block _ (by omega) (fun e => by have := (h1.lt _ e.symm).1; omega)]; exact h.b0
  · rw [hg.block _ (by omega) (fun e => by have := (h1.lt _ e.symm).1; omega)]; exact h.b1
theorem Boxes.store {w W : World} {n : Int} {u : Value} (h : Boxes w W n u) (m : Int) (u' : Value) : Boxes w ((W.setCell ⟨w.heap.size, 0, none⟩ (.int .i64 m)).setCell ⟨w.heap.size, 1, none⟩ u') m u' :=
  ⟨bl_set (bl_set h.bl (Nat.le_refl _) _) (Nat.le_refl _) _, (heap_set (heap_set h.b0)).trans rfl, (heap_set_other (by simp)).trans ((heap_set_other (by simp)).trans h.b1)⟩
theorem Boxes.now {w W : World} {n : Int} {u : Value} (h : Boxes w W n u) (m : Int) : Boxes w (W.setCell ⟨w.heap.size, 0, none⟩ (.int .i64 m)) m u :=
  ⟨bl_set h.bl (Nat.le_refl _) _, (heap_set h.b0).trans rfl, (heap_set_other (by simp)).trans h.b1⟩
/-- In the first loop. -/
structure St1 (w W : World) (n : Int) (v : Value) (L : List Th) (u : Value) (M : List Th) (gs : Value) (G : List ByteArray) : Prop where
  bx : Boxes w W n u
  ru : RefIs (w.heap.size + 2) v L W u M
  g : W.ownsRow (w.heap.size + 2) 9 1 gs G.length (G.flatMap sCells)
theorem St1.below {w W W' : World} {n : Int} {v u gs : Value} {L M : List Th} {G : List ByteArray} (h : St1 w W n v L u M gs G) (hb : Below W.heap.size W W') : St1 w W' n v L u M gs G := ⟨h.bx.below hb, h.ru.below hb, own_lies h.g hb⟩
theorem St1.grown {w W W' : World} {n : Int} {v u gs gs' : Value} {L M : List Th} {G G' : List ByteArray} (h : St1 w W n v L u M gs G) (hg : W.grownBy W' gs.ownBlock) (hown : W'.ownsRow (w.heap.size + 2) 9 1 gs' G'.length (G'.flatMap sCells)) : St1 w W' n v L u M gs' G' :=
  ⟨h.bx.grown h.g (Nat.le_refl _) hg, h.ru.grown h.g hg, hown⟩
theorem St1.store {w W : World} {n : Int} {v u u' gs : Value} {L M M' : List Th} {G : List ByteArray} {B : Nat} (h : St1 w W n v L u M gs G) (hB : w.heap.size + 2 ≤ B) (ho : W.ownsRow B 35 4 u' M'.length (M'.flatMap Th.cells)) (m : Int) :
    St1 w ((W.setCell ⟨w.heap.size, 0, none⟩ (.int .i64 m)).setCell ⟨w.heap.size, 1, none⟩ u') m v L u' M' gs G :=
  ⟨h.bx.store m u', .inr (own_set (own_set (own_mono ho hB) (show w.heap.size < _ by omega) _) (show w.heap.size < _ by omega) _), own_set (own_set h.g (show w.heap.size < _ by omega) _) (show w.heap.size < _ by omega) _⟩
/-- In the last loop. -/
structure St3 (w W : World) (n : Int) (v : Value) (L : List Th) (u : Value) (M : List Th) (gs : Value) (G : List ByteArray) (ul : Value) (l : List Th) (B : Nat) (ag : Value) (D : List ByteArray) : Prop where
  s1 : St1 w W n v L u M gs G
  rl : RefIs (w.heap.size + 2) v L W ul l
  a : W.ownsRow B 9 1 ag D.length (D.flatMap sCells)
  far : ∀ j, gs.ownBlock = some j → j < B
  le : w.heap.size + 2 ≤ B
  sz : B ≤ W.heap.size
theorem St3.start {w W : World} {n : Int} {v u gs : Value} {L M : List Th} {G : List ByteArray} (h : St1 w W n v L u M gs G) : St3 w W n v L u M gs G u M W.heap.size (.slice none 0 0) [] :=
  ⟨h, h.ru, World.ownsRow_nil _ _ _ _, fun j hj => (h.g.lt j hj).2, h.bx.size, Nat.le_refl _⟩
theorem St3.below {w W W' : World} {n : Int} {v u gs ul ag : Value} {L M l : List Th} {G D : List ByteArray} {B : Nat} (h : St3 w W n v L u M gs G ul l B ag D) (hb : Below W.heap.size W W') : St3 w W' n v L u M gs G ul l B ag D :=
  ⟨h.s1.below hb, h.rl.below hb, own_lies h.a hb, h.far, h.le, Nat.le_trans h.sz hb.size⟩
theorem St3.grown {w W W' : World} {n : Int} {v u gs ul ag ag' : Value} {L M l : List Th} {G D D' : List ByteArray} {B : Nat} (h : St3 w W n v L u M gs G ul l B ag D) (hg : W.grownBy W' ag.ownBlock) (hown : W'.ownsRow B 9 1 ag' D'.length (D'.flatMap sCells)) : St3 w W' n v L u M gs G ul l B ag' D' :=
  ⟨⟨h.s1.bx.grown h.a h.le hg, h.s1.ru.grown h.a hg, own_far h.a h.s1.g h.far hg⟩, h.rl.grown h.a hg, hown, h.far, h.le, Nat.le_trans h.sz hg.size⟩
theorem St3.store {w W : World} {n : Int} {v u u' gs ul ag : Value} {L M M' l : List Th} {G D : List ByteArray} {B B' : Nat} (h : St3 w W n v L u M gs G ul l B ag D) (hB : w.heap.size + 2 ≤ B') (ho : W.ownsRow B' 35 4 u' M'.length (M'.flatMap Th.cells)) (m : Int) :
    St3 w ((W.setCell ⟨w.heap.size, 0, none⟩ (.int .i64 m)).setCell ⟨w.heap.size, 1, none⟩ u') m v L u' M' gs G ul l B ag D := by
  have hle := h.le
  exact ⟨h.s1.store hB ho m, (h.rl.set (show w.heap.size < _ by omega) _).set (show w.heap.size < _ by omega) _, own_set (own_set h.a (show w.heap.size < _ by omega) _) (show w.heap.size < _ by omega) _, h.far, hle, by simpa [World.setCell] using h.sz⟩
/-- A block of another type stays. -/
theorem grown_other {w w' : World} {b1 e1 k1 n1 b : Nat} {v1 : Value} {c1 : List Value} {cur : Array Value} {t : TypeId} {fr : Nat × Nat} (h1 : w.ownsRow b1 e1 k1 v1 n1 c1) (hb : w.heap[b]? = some (.cells cur t fr)) (ht : t ≠ e1) (hg : w.grownBy w' v1.ownBlock) : w'.heap[b]? = some (.cells cur t fr) := by
  rw [hg.block b (Array.getElem?_eq_some_iff.1 hb).1 fun h => ?_, hb]
  rcases h1.2 with ⟨rfl, -⟩ | ⟨g1, cap1, cur1, rfl, -, h4, -⟩
  · cases h
  · simp only [Value.ownBlock, Option.some.injEq] at h
    subst h
    rw [hb] at h4
    injection h4 with h4
    injection h4 with _ h5 _
    exact ht h5
set_option maxRecDepth 100000 in
set_option maxHeartbeats 2000000 in
theorem rgo_no (now : Int) (v : Value) (L : List Th) (n : Int) (w : World) (h : SAt Th.cells 4 w v L) (hn : n < now ∨ 2147483647 < n) :
    Calls Try.prog 43 #[.agg #[.int .i64 now, v], .int .i64 n] w fun e w' => e = .returned (.tuple #[.agg #[.int .i64 now, v], .slice none 0 0, .slice none 0 0, .int .i64 2]) ∧ Below w.heap.size w w' := by
  obtain ⟨A, c, rfl⟩ := h.slice
  obtain ⟨Q, hQ⟩ : ∃ Q : Ending → World → Prop, Q = fun e w' => e = .returned (.tuple #[.agg #[.int .i64 now, .slice A L.length c], .slice none 0 0, .slice none 0 0, .int .i64 2]) ∧ Below w.heap.size w w' := ⟨_, rfl⟩
  rw [← hQ]
  have HQ := Lib.hid hQ
  have hbx := boxes_new w now (.slice A L.length c)
  obtain ⟨wz, hwz⟩ : ∃ wz, wz = (w.alloc (.cells #[.int .i64 now, .slice A L.length c] 47)).alloc (.cells #[.int .i64 0, .slice none 0 0] 47) := ⟨_, rfl⟩
  rw [← hwz] at hbx
  have HBX := Lib.hid hbx
  have HWZ := Lib.hid hwz
  obtain ⟨⟨x0, x1, x2, x3⟩, y0, y1, y2, y3⟩ := hbx.reads
  clear hQ h hbx hwz
  by_cases h1 : n < now
  · clear hn
    go_enter Try.func43, Try.ntmps43
    go_upto_region 1 with fail
    rw [← HWZ.out]
    go_wp2_with fail
    obtain ⟨s0, s1⟩ := set2 HBX.out.b1 (.int .i64 now) (.slice A L.length c)
    refine bodyPost_ret (v := .tuple #[.agg #[.int .i64 now, .slice A L.length c], .slice none 0 0, .slice none 0 0, .int .i64 2]) (by simp [results, Try.results43, go_sem, s0, s1]) rfl ?_
    rw [HQ.out]
    exact ⟨rfl, bl_set (bl_set HBX.out.bl (by simp) _) (by simp) _⟩
  · have h2 : 2147483647 < n := by omega
    clear hn
    go_enter Try.func43, Try.ntmps43
    go_upto_region 1 with fail
    rw [← HWZ.out]
    go_wp2_with fail
    obtain ⟨s0, s1⟩ := set2 HBX.out.b1 (.int .i64 now) (.slice A L.length c)
    refine bodyPost_ret (v := .tuple #[.agg #[.int .i64 now, .slice A L.length c], .slice none 0 0, .slice none 0 0, .int .i64 2]) (by simp [results, Try.results43, go_sem, s0, s1]) rfl ?_
    rw [HQ.out]
    exact ⟨rfl, bl_set (bl_set HBX.out.bl (by simp) _) (by simp) _⟩
end Go.Proofs.Ytojeombljhmkaaa
/- Soft: the document's Go. -/
namespace Go.Proofs.Ytojeombljhmkaaa
open Go.RowKit Go.Shelf Go.Sort
set_option linter.unusedVariables false
set_option linter.unusedSimpArgs false
attribute [local go_sem] Oper.semAt_some
set_option maxRecDepth 100000 in
set_option maxHeartbeats 4000000 in
theorem rgo_any (now : Int) (v : Value) (L : List Th) (n : Int) (w : World) (h : SAt Th.cells 4 w v L) (hL : ByName L) (hlen : L.length ≤ 100000) (hp : ∀ x ∈ L, 1 ≤ x.period ∧ x.period ≤ 1000000) (h0 : 0 ≤ now) (h1 : now ≤ n) (h2 : n ≤ 2147483647) :
    Calls Try.prog 43 #[.agg #[.int .i64 now, v], .int .i64 n] w fun e w' => ∃ u a b, e = .returned (.tuple #[.agg #[.int .i64 n, u], a, b, .int .i64 0]) ∧ RefIs w.heap.size v L w' u (goTo n L) ∧
      w'.ownsRow w.heap.size 9 1 a (goneL n L).length (((goneL n L).map (·.name)).flatMap sCells) ∧ w'.ownsRow w.heap.size 9 1 b (dueL n L).length (((dueL n L).map (·.name)).flatMap sCells) ∧ Below w.heap.size w w' := by
  obtain ⟨A, c, rfl⟩ := h.slice
  obtain ⟨Q, hQ⟩ : ∃ Q : Ending → World → Prop, Q = fun e w' => ∃ u a b, e = .returned (.tuple #[.agg #[.int .i64 n, u], a, b, .int .i64 0]) ∧ RefIs w.heap.size (.slice A L.length c) L w' u (goTo n L) ∧
      w'.ownsRow w.heap.size 9 1 a (goneL n L).length (((goneL n L).map (·.name)).flatMap sCells) ∧ w'.ownsRow w.heap.size 9 1 b (dueL n L).length (((dueL n L).map (·.name)).flatMap sCells) ∧ Below w.heap.size w w' := ⟨_, rfl⟩
  rw [← hQ]
  have HQ := Lib.hid hQ
  have hbx := boxes_new w now (.slice A L.length c)
  obtain ⟨wz, hwz⟩ : ∃ wz, wz = (w.alloc (.cells #[.int .i64 now, .slice A L.length c] 47)).alloc (.cells #[.int .i64 0, .slice none 0 0] 47) := ⟨_, rfl⟩
  rw [← hwz] at hbx
  have hs1 : St1 w (wz.setCell ⟨w.heap.size, 0, none⟩ (.int .i64 n)) n (.slice A L.length c) L (.slice A L.length c) L (.slice none 0 0) [] := ⟨hbx.now n, .inl ⟨rfl, rfl⟩, World.ownsRow_nil _ _ _ _⟩
  have HS1 := Lib.hid hs1
  have HS := Lib.hid h
  have HL := Lib.hid (And.intro hL (And.intro hlen hp))
  have HN2 := Lib.hid (And.intro h0 (And.intro h1 h2))
  have HBX := Lib.hid hbx
  have HWZ := Lib.hid hwz
  have hn1 : ¬ n < now := by omega
  have hn2 : ¬ 2147483647 < n := by omega
  obtain ⟨⟨x0, x1, x2, x3⟩, y0, y1, y2, y3⟩ := hbx.reads
  have hfl := fld_L
  clear hQ h hbx hwz hs1 hL hlen hp h0 h1 h2
  go_enter Try.func43, Try.ntmps43
  go_upto_region 1 with fail
  rw [← HWZ.out]
  go_upto_region 4 with fail
  generalize wz.setCell ⟨w.heap.size, 0, none⟩ (.int .i64 n) = w1 at HS1 ⊢
  clear x0 x1 x2 x3 y0 y1 y2 y3 HBX HWZ
  go_wp2_with fail
  go_loopg [8] (L.length + 1) (fun gg s8 wr => ∃ G M u, M.length ≤ gg ∧ Aside (GoneTo n L G M) ∧ Aside (St1 w wr n (.slice A L.length c) L u M s8 (G.map (·.name))))
  case atStart => exact ⟨[], L, _, by omega, gone_start n HL.out.1, HS1.out⟩
  case round =>
    clear HS1
    obtain ⟨G, M, u, hgg, HG, HST⟩ := hrel
    obtain ⟨wa, hwa⟩ : ∃ wa, wa = wr := ⟨_, rfl⟩
    subst hwa
    obtain ⟨A2, c2, rfl⟩ := (HST.out.ru.sat HS.out HST.out.bx.bl).slice
    have hml : M.length ≤ 100000 := by have := HG.out.len; have := HL.out.2.1; omega
    go_wp2_with fail
    go_loopg [10, 11] (M.length + 1) (fun gg s10 s11 wr => ∃ (i : Nat) (k : Int), i ≤ M.length ∧ M.length - i ≤ gg ∧ s11 = .int .i64 (i : Int) ∧ s10 = .int .i64 k ∧ Aside (PickI n M i k) ∧ Aside (St1 w wr n (.slice A L.length c) L (.slice A2 M.length c2) M u8 (G.map (·.name))))
    case atStart => exact ⟨0, -1, by omega, by omega, rfl, rfl, pick_zero n M, HST.out⟩
    case round =>
      clear HST
      obtain ⟨i, k, hi, hgi, rfl, rfl, HP, HST⟩ := hrel
      obtain ⟨⟨x0, x1, x2, x3⟩, y0, y1, y2, y3⟩ := HST.out.bx.reads
      by_cases hlt : i < M.length
      · have hltz : (i : Int) < (M.length : Int) := by omega
        have hgi2 : M[i]? = some M[i] := List.getElem?_eq_getElem hlt
        generalize M[i] = y at hgi2
        have HPN := Lib.hid (pick_next HP.out hgi2)
        rcases HST.out.ru.sat HS.out HST.out.bx.bl with ⟨-, q2⟩ | ⟨b, o, c', q1, _, _, hrow⟩
        · subst q2; simp at hlt
        · simp only [Value.slice.injEq] at q1
          obtain ⟨rfl, -, rfl⟩ := q1
          obtain ⟨-, -, -, c3⟩ := th_row hrow hgi2
          have c3' : wr.drew.cell? ⟨b, o + i * 4 + 3, none⟩ = some (.int .i64 y.forgot) := c3
          have x1' : wr.drew.cell? ⟨w.heap.size, 1, none⟩ = _ := x1
          by_cases hyn : y.forgot ≤ n
          · rcases HP.out with ⟨rfl, -⟩ | ⟨kk, x, rfl, hki, hx, hxn, -⟩
            · have hbt : betterB n M (-1) y = true := by simp [betterB, hyn]
              rw [if_pos hbt] at HPN
              have hk0 : (-1 : Int) < 0 := by omega
              clear hrow hgi2 hbt
              go_upto_region 9 with fail
              go_quiet (fail)
              go_wp2_with fail
              go_roundg (M.length - (i + 1))
              case measure => omega
              case rel => exact ⟨i + 1, i, by omega, by omega, by go_num, rfl, HPN.out, (HST.out.below (by repeat (first | exact Below.refl _ _ | refine bl_drew ?_ | refine bl_drewN ?_ _)))⟩
            · have hkl := (List.getElem?_eq_some_iff.1 hx).1
              obtain ⟨-, -, -, d3⟩ := th_row hrow hx
              have d3' : wr.drew.cell? ⟨b, o + kk * 4 + 3, none⟩ = some (.int .i64 x.forgot) := d3
              have hk0 : ¬ (kk : Int) < 0 := by omega
              have hkz : (kk : Int) < (M.length : Int) := by omega
              have hbt : betterB n M (kk : Int) y = decide (y.forgot < x.forgot) := by
                unfold betterB
                have : M[(kk : Int).toNat]? = some x := hx
                rw [this]
                simp [hyn]; omega
              by_cases hyx : y.forgot < x.forgot
              · rw [hbt, decide_eq_true hyx, if_pos rfl] at HPN
                clear hrow hgi2 hbt hx
                go_upto_region 9 with fail
                go_quiet (fail)
                go_wp2_with fail
                go_roundg (M.length - (i + 1))
                case measure => omega
                case rel => exact ⟨i + 1, i, by omega, by omega, by go_num, rfl, HPN.out, (HST.out.below (by repeat (first | exact Below.refl _ _ | refine bl_drew ?_ | refine bl_drewN ?_ _)))⟩
              · rw [hbt, decide_eq_false hyx, if_neg (by decide)] at HPN
                clear hrow hgi2 hbt hx
                go_upto_region 9 with fail
                go_quiet (fail)
                go_wp2_with fail
                go_roundg (M.length - (i + 1))
                case measure => omega
                case rel => exact ⟨i + 1, kk, by omega, by omega, by go_num, rfl, HPN.out, (HST.out.below (by repeat (first | exact Below.refl _ _ | refine bl_drew ?_ | refine bl_drewN ?_ _)))⟩
          · have hbt : betterB n M k y = false := by simp [betterB, hyn]
            rw [hbt, if_neg (by decide)] at HPN
            clear hrow hgi2 hbt
            go_upto_region 9 with fail
            go_quiet (fail)
            go_wp2_with fail
            go_roundg (M.length - (i + 1))
            case measure => omega
            case rel => exact ⟨i + 1, k, by omega, by omega, by go_num, rfl, HPN.out, (HST.out.below (by repeat (first | exact Below.refl _ _ | refine bl_drew ?_ | refine bl_drewN ?_ _)))⟩
      · obtain rfl : i = M.length := by omega
        have hltz : ¬ (M.length : Int) < (M.length : Int) := by omega
        have HPK := Lib.hid HP.out
        rcases HP.out with ⟨rfl, -⟩ | ⟨kk, x, rfl, hki, hx, hxn, -⟩
        · have hk0 : (-1 : Int) < 0 := by omega
          go_upto_region 14 with fail
          obtain ⟨wb, hwb⟩ : ∃ wb, wb = wr := ⟨_, rfl⟩
          subst hwb
          go_wp2_with fail
          have HGE := Lib.hid (gone_end HL.out.1 HG.out HP.out)
          go_loopg [9, 13] (M.length + 1) (fun gg s9 s13 wr => ∃ (k : Nat) (u : Value) (D : List ByteArray), k ≤ M.length ∧ M.length - k ≤ gg ∧ s13 = .int .i64 (k : Int) ∧ Aside (D = ((M.take k).filter (fun y => decide (y.next ≤ n))).map (·.name)) ∧ Aside (St3 w wr n (.slice A L.length c) L u ((M.take k).map (saidT n) ++ M.drop k) u8 (G.map (·.name)) (.slice A2 M.length c2) M wb.heap.size s9 D))
          case atStart => exact ⟨0, _, [], by omega, by omega, rfl, rfl, St3.start HST.out⟩
          case round =>
            clear HST HP x0 x1 x2 x3 y0 y1 y2 y3
            obtain ⟨k, u, D, hk, hgk3, rfl, HD, HST⟩ := hrel
            obtain ⟨A6, c6, hu⟩ := (HST.out.s1.ru.sat HS.out HST.out.s1.bx.bl).slice
            generalize ((M.take k).map (saidT n) ++ M.drop k).length = N at hu
            subst hu
            obtain ⟨⟨x0, x1, x2, x3⟩, y0, y1, y2, y3⟩ := HST.out.s1.bx.reads
            by_cases hlt : k < M.length
            · have hltz : (k : Int) < (M.length : Int) := by omega
              have hgk : M[k]? = some M[k] := List.getElem?_eq_getElem hlt
              generalize M[k] = x at hgk
              have hML : x ∈ L := HG.out.sub x (List.mem_of_getElem? hgk)
              have hpx := HL.out.2.2 x hML
              have HGK := Lib.hid hgk
              rcases HST.out.rl.sat HS.out HST.out.s1.bx.bl with ⟨-, q2⟩ | ⟨b, o, c', q1, _, _, hrow⟩
              · subst q2; simp at hlt
              · simp only [Value.slice.injEq] at q1
                obtain ⟨rfl, -, rfl⟩ := q1
                obtain ⟨c0, c1, c2', c3⟩ := th_row hrow hgk
                clear hrow hgk
                by_cases hxn : x.next ≤ n
                · have HXN := Lib.hid hxn
                  have hwp : wrap64 (n + x.period) = n + x.period := wrap_in (by have := HN2.out; omega)
                  have HSW := Lib.hid (said_with HG.out.sort HGK.out hxn)
                  have hM2 : ((M.take k).map (saidT n) ++ M.drop k).length ≤ 100000 := by simp; omega
                  generalize (M.take k).map (saidT n) ++ M.drop k = M2 at HST HSW hM2
                  have HM2 := Lib.hid hM2
                  have hdl : D.length ≤ M.length := by
                    rw [HD.out, List.length_map]
                    exact Nat.le_trans (List.length_filter_le _ _) (by simp; omega)
                  have HDL : Hid (D.length ≤ 100000) := Lib.hid (by omega)
                  have HZ := Lib.hid HST.out.s1.bx.size
                  have HLE := Lib.hid HST.out.le
                  have HWS : Hid (wb.heap.size ≤ wr.heap.size) := Lib.hid HST.out.sz
                  clear hdl hM2
                  go_upto_region 20 with fail
                  obtain ⟨w4, hw4⟩ : ∃ w4, w4 = wr.alloc (.cells #[.string x.name, .int .i64 x.period, .int .i64 x.next, .int .i64 x.forgot] 35) := ⟨_, rfl⟩
                  rw [← hw4]
                  have hb4 : Below wr.heap.size wr w4 := hw4 ▸ bl_alloc (Below.refl _ _) _
                  have hx4 : w4.heap[wr.heap.size]? = some (.cells #[.string x.name, .int .i64 x.period, .int .i64 x.next, .int .i64 x.forgot] 35 (0, 0)) := by rw [hw4]; exact at_alloc rfl
                  obtain ⟨z0, z1, z2, z3, f0, f1, f2, f3⟩ := cells4 hx4
                  have HX4 := Lib.hid (And.intro hb4 hx4)
                  clear hb4 hx4 hw4 c0 c1 c2' c3 x0 x1 x2 x3 y0 y1 y2 y3
                  go_upto_region 21 with fail
                  have hx5 : ((w4.setCell ⟨wr.heap.size, 2, none⟩ (.int .i64 (n + x.period)))).heap[wr.heap.size]? = some (.cells #[.string x.name, .int .i64 x.period, .int .i64 (n + x.period), .int .i64 x.forgot] 35 (0, 0)) := (heap_set HX4.out.2).trans rfl
                  have hb5 : Below wr.heap.size wr (w4.setCell ⟨wr.heap.size, 2, none⟩ (.int .i64 (n + x.period))) := bl_set HX4.out.1 (Nat.le_refl _) _
                  generalize (w4.setCell ⟨wr.heap.size, 2, none⟩ (.int .i64 (n + x.period))) = w5 at hx5 hb5 ⊢
                  clear z0 z1 z2 z3 f0 f1 f2 f3
                  obtain ⟨z0, z1, z2, z3, f0, f1, f2, f3⟩ := cells4 hx5
                  have HST5 := Lib.hid (HST.out.below hb5)
                  have HX5 := Lib.hid (And.intro hb5 hx5)
                  have hz5 := hb5.size
                  clear hx5 hb5 HST
                  go_upto_region 22 with (at_builtin; go_loud (refine wpList_app rfl (.tmp 104) (.tmp 107) rfl elStr (fun _ => rfl) str_one (base := wb.heap.size) (v := u9) (src := .slice (some ⟨w5.heap.size, 0, none⟩) 1 1) (xs := D) (ys := [x.name]) (by go_simp) (by go_simp) rfl (own_lies HST5.out.a (bl_alloc (Below.refl _ _) _)) (sat_oneS w5 x.name rfl) (by have := HWS.out; simp; omega) (by have := HDL.out; simp only [List.length_cons, List.length_nil, maxLen]; omega) (by have := HDL.out; simp only [List.length_cons, List.length_nil]; omega) ?_; intro v9 w9 hown9 hg9; have HST9 := Lib.hid ((HST5.out.below (bl_alloc (Below.refl _ _) (.cells #[.string x.name] 9))).grown hg9 hown9); have hx9 := grown_other (own_lies HST5.out.a (bl_alloc (Below.refl _ _) (.cells #[.string x.name] 9))) (((bl_alloc (Below.refl w5.heap.size w5) (.cells #[.string x.name] 9)).block wr.heap.size (Array.getElem?_eq_some_iff.1 HX5.out.2).1).trans HX5.out.2) (by decide) hg9; obtain ⟨z0, z1, z2, z3, f0, f1, f2, f3⟩ := cells4 hx9; obtain ⟨⟨x0, x1, x2, x3⟩, y0, y1, y2, y3⟩ := HST9.out.s1.bx.reads; clear hg9 hown9 hx9))
                  have HWI := Lib.hid (rwith_any n _ M2 ⟨x.name, x.period, n + x.period, x.forgot⟩ w9 (HST9.out.s1.ru.sat HS.out HST9.out.s1.bx.bl) HM2.out)
                  go_wp2_with (go_at_call 52; refine HWI.out.mono ?_; rintro e w10 ⟨⟨u', rfl, ho⟩, hb⟩; obtain ⟨A5, c5, rfl⟩ := own_form ho; have hst10 := HST9.out.below hb; obtain ⟨⟨X0, X1, X2, X3⟩, Y0, Y1, Y2, Y3⟩ := hst10.s1.bx.reads; have HST10 := Lib.hid hst10; have HO := Lib.hid ho; clear hst10 ho hb)
                  go_roundg (M.length - (k + 1))
                  case measure => omega
                  case rel =>
                    refine ⟨k + 1, .slice A5 (withL M2 ⟨x.name, x.period, n + x.period, x.forgot⟩).length c5, D ++ [x.name], by omega, by omega, by go_num, ?_, ?_⟩
                    · show D ++ [x.name] = _
                      rw [← take_snoc' HGK.out, List.filter_append, List.filter_cons_of_pos (by have := HXN.out; simp; omega), List.filter_nil, List.map_append, ← HD.out]
                      rfl
                    · have h5 := HST10.out.store (Nat.le_trans HST9.out.le HST9.out.sz) HO.out n
                      show St3 _ _ _ _ _ _ _ _ _ _ _ _ _ _
                      rw [← HSW.out]
                      exact h5
                · have HXN := Lib.hid hxn
                  go_wp2_with fail
                  go_roundg (M.length - (k + 1))
                  case measure => omega
                  case rel =>
                    refine ⟨k + 1, .slice A6 N c6, D, by omega, by omega, by go_num, ?_, ?_⟩
                    · show D = _
                      rw [← take_snoc' HGK.out, List.filter_append, List.filter_cons_of_neg (by have := HXN.out; simp; omega), List.filter_nil, List.append_nil]
                      exact HD.out
                    · show St3 _ _ _ _ _ _ _ _ _ _ _ _ _ _
                      rw [← said_not HGK.out (by have := HXN.out; omega)]
                      exact HST.out
            · obtain rfl : k = M.length := by omega
              have hltz : ¬ (M.length : Int) < (M.length : Int) := by omega
              go_wp2_with fail
              obtain ⟨s0, s1⟩ := set2 HST.out.s1.bx.b1 (.int .i64 n) (.slice A6 N c6)
              refine bodyPost_ret (v := .tuple #[.agg #[.int .i64 n, .slice A6 N c6], u8, u9, .int .i64 0]) (by simp [results, Try.results43, go_sem, s0, s1]) rfl ?_
              rw [HQ.out]
              have hMt : M.take M.length = M := List.take_length
              have hMd : M.drop M.length = [] := List.drop_length
              obtain ⟨hG1, hG2⟩ := HGE.out
              have hdu : dueL n L = M.filter (fun y => decide (y.next ≤ n)) := by unfold dueL; rw [← hG2]
              have hgt : goTo n L = M.map (saidT n) := by unfold goTo; rw [← hG2]
              have hst := HST.out
              have hD := HD.out
              rw [hMt] at hD
              rw [hMt, hMd, List.append_nil] at hst
              subst hD
              have h1 := hst.s1.g
              have h2 := hst.a
              rw [List.length_map] at h1 h2
              rw [hG1] at h1
              rw [← hdu] at h2
              have hle := hst.le
              refine ⟨_, _, _, rfl, ?_, ?_, ?_, bl_set (bl_set hst.s1.bx.bl (by simp) _) (by simp) _⟩
              · rw [hgt]
                exact ((hst.s1.ru.set (show w.heap.size + 1 < _ by omega) _).set (show w.heap.size + 1 < _ by omega) _).mono (by omega)
              · exact own_mono (own_set (own_set h1 (show w.heap.size + 1 < _ by omega) _) (show w.heap.size + 1 < _ by omega) _) (by omega)
              · exact own_mono (own_set (own_set h2 (show w.heap.size + 1 < _ by omega) _) (show w.heap.size + 1 < _ by omega) _) (by omega)
        · have hk0 : ¬ (kk : Int) < 0 := by omega
          have hkz : (kk : Int) < (M.length : Int) := by omega
          have HX := Lib.hid hx
          have HDM : Hid ((delL M x.name).length < M.length) := Lib.hid (by
            have q1 := (gone_next HG.out hx HPK.out).len
            have q2 := HG.out.len
            simp only [List.length_append, List.length_cons, List.length_nil] at q1
            omega)
          rcases HST.out.ru.sat HS.out HST.out.bx.bl with ⟨-, q2⟩ | ⟨b, o, c', q1, _, _, hrow⟩
          · subst q2; simp at hki
          · simp only [Value.slice.injEq] at q1
            obtain ⟨rfl, -, rfl⟩ := q1
            obtain ⟨c0, -, -, -⟩ := th_row hrow hx
            have hzr := HST.out.bx.size
            have hgl : G.length + M.length = L.length := HG.out.len
            have hll := HL.out.2.1
            have HGL : Hid ((G.map (·.name)).length ≤ 100000 - 1) := Lib.hid (by rw [List.length_map]; omega)
            clear hrow hx
            go_upto_region 13 with (at_builtin; go_loud (refine wpList_app rfl (.tmp 63) (.tmp 70) rfl elStr (fun _ => rfl) str_one (base := w.heap.size + 2) (v := u8) (src := .slice (some ⟨wr.heap.size, 0, none⟩) 1 1) (xs := G.map (·.name)) (ys := [x.name]) (by go_simp) (by go_simp) rfl (own_lies HST.out.g (bl_alloc (Below.refl _ _) _)) (sat_oneS wr x.name rfl) (by simp; omega) (by have := HGL.out; simp only [List.length_cons, List.length_nil, maxLen]; omega) (by have := HGL.out; simp only [List.length_cons, List.length_nil]; omega) ?_; intro v9 w9 hown9 hg9; have HST9 : Hid (St1 w w9 n (.slice A L.length c) L (.slice (some ⟨b, o, none⟩) M.length c2) M v9 ((G ++ [x]).map (·.name))) := Lib.hid ((HST.out.below (bl_alloc (Below.refl _ _) (.cells #[.string x.name] 9))).grown hg9 (by rw [List.map_append]; exact hown9)); clear hg9 hown9))
            obtain ⟨⟨x0, x1, x2, x3⟩, y0, y1, y2, y3⟩ := HST9.out.bx.reads
            rcases HST9.out.ru.sat HS.out HST9.out.bx.bl with ⟨-, q2⟩ | ⟨b', o', c', q1, _, _, hrow⟩
            · subst q2; simp at hki
            · simp only [Value.slice.injEq] at q1
              obtain ⟨q3, -, rfl⟩ := q1
              cases q3
              obtain ⟨c0, -, -, -⟩ := th_row hrow HX.out
              clear hrow
              have HWO : Hid (∀ W, Below w9.heap.size w9 W → Calls _ _ _ W _) := Lib.hid fun W hW => rwithout_any n _ M x.name W ((HST9.out.below hW).ru.sat HS.out (HST9.out.below hW).bx.bl) (by omega)
              first
              | go_region_law ((go_simp; refine (HWO.out _ (by repeat (first | exact Below.refl _ _ | refine bl_drew ?_ | refine bl_drewN ?_ _))).mono ?_; rintro e w10 ⟨⟨u', rfl, ho⟩, hb⟩; obtain ⟨A5, c5, rfl⟩ := own_form ho; have hst10 := (HST9.out.below (by repeat (first | exact Below.refl _ _ | refine bl_drew ?_ | refine bl_drewN ?_ _))).below hb; obtain ⟨⟨X0, X1, X2, X3⟩, Y0, Y1, Y2, Y3⟩ := hst10.bx.reads; have hz10 : w.heap.size + 2 ≤ w9.drew.heap.size := HST9.out.bx.size; have HST10 := Lib.hid hst10; have HO := Lib.hid ho; clear hst10 ho hb))
              | fail "law"
              all_goals go_wp2_with fail
              all_goals
                go_roundg ((delL M x.name).length)
                case measure => have := HDM.out; omega
                case rel =>
                  refine ⟨G ++ [x], delL M x.name, .slice A5 (delL M x.name).length c5, Nat.le_refl _, gone_next HG.out HX.out HPK.out, ?_⟩
                  show St1 _ _ _ _ _ _ _ _ _
                  exact HST10.out.store HST9.out.bx.size HO.out n
end Go.Proofs.Ytojeombljhmkaaa
/- Soft: the document's SameThings, slices.Equal at things, few. -/
namespace Go.Proofs.Ytojeombljhmkaaa
open Go.RowKit Go.Shelf Go.Sort
set_option linter.unusedVariables false
set_option linter.unusedSimpArgs false
attribute [local go_sem] Oper.semAt_some
deriving instance DecidableEq for Th
theorem name_beq (a b : ByteArray) : (a.toList == b.toList) = decide (a = b) := by
  by_cases h : a = b
  · subst h; simp
  · rw [decide_eq_false h]
    cases h4 : a.toList == b.toList with
    | false => rfl
    | true => exact absurd (toList_inj (beq_iff_eq.1 h4)) h
theorem neq_th (x y : Th) (w : World) : (binOp .neq 35 x.val y.val).run Try.prog w = .ok (.bool (!decide (x = y))) w := by
  have e : x = y ↔ x.name = y.name ∧ x.period = y.period ∧ x.next = y.next ∧ x.forgot = y.forgot := by cases x; cases y; simp
  have hb := name_beq x.name y.name
  simp [go_sem]
  by_cases h1 : x.name = y.name
  · by_cases h2 : x.period = y.period
    · by_cases h3 : x.next = y.next
      · by_cases h4 : x.forgot = y.forgot <;> simp [h1, h2, h3, h4, e]
      · simp [h1, h2, h3, e]
    · simp [h1, h2, e]
  · rw [decide_eq_false h1] at hb
    simp [h1, e, hb]
    exact fun h => absurd (toList_inj h) h1
theorem take_stepT {xs ys : List Th} {k : Nat} {x : Th} (h : xs.take k = ys.take k) (hx : xs[k]? = some x) (hy : ys[k]? = some x) : xs.take (k + 1) = ys.take (k + 1) := by
  rw [← take_snoc' hx, ← take_snoc' hy, h]
set_option maxRecDepth 100000 in
set_option maxHeartbeats 1000000 in
theorem things_any (v u : Value) (xs ys : List Th) (w : World) (h : SAt Th.cells 4 w v xs) (h2 : SAt Th.cells 4 w u ys) :
    Calls Try.prog 25 #[v, u] w fun e w' => e = .returned (.bool (decide (xs = ys))) ∧ Below w.heap.size w w' := by
  have hlm := h.len
  have hlm2 := h2.len
  unfold maxLen at hlm hlm2
  obtain ⟨A, c, rfl⟩ := h.slice
  obtain ⟨A2, c2, rfl⟩ := h2.slice
  have H := Lib.hid h
  have H2 := Lib.hid h2
  clear h h2
  obtain ⟨Q, hQ⟩ : ∃ Q : Ending → World → Prop, Q = fun e w' => e = .returned (.bool (decide (xs = ys))) ∧ Below w.heap.size w w' := ⟨_, rfl⟩
  rw [← hQ]
  have HQ := Lib.hid hQ
  clear hQ
  by_cases hl : xs.length = ys.length
  · have HL := Lib.hid hl
    have hlz : ((xs.length : Int) != (ys.length : Int)) = false := by rw [hl]; simp
    clear hl
    go_enter Try.func25, Try.ntmps25
    go_wp2_with fail
    go_loopg [5] (xs.length + 1) (fun gg s13 wr => ∃ k : Nat, k ≤ xs.length ∧ xs.length - k ≤ gg ∧ s13 = .int .i64 k ∧ Aside (xs.take k = ys.take k) ∧ Aside (Below w.heap.size w wr))
    case atStart => exact ⟨0, by omega, by omega, rfl, (show xs.take 0 = ys.take 0 by rw [List.take_zero, List.take_zero]), Below.refl _ _⟩
    case round =>
      obtain ⟨k, hk, hgg, rfl, HN, HB⟩ := hrel
      by_cases hlt : k < xs.length
      · have hlt2 : k < ys.length := by have := HL.out; omega
        have hltz : (k : Int) < (ys.length : Int) := by omega
        have hltz2 : (k : Int) < (xs.length : Int) := by omega
        have hgk : xs[k]? = some xs[k] := List.getElem?_eq_getElem hlt
        have hgy : ys[k]? = some ys[k] := List.getElem?_eq_getElem hlt2
        generalize xs[k] = l at hgk
        generalize ys[k] = m at hgy
        rcases H.out.below HB.out with ⟨h1, h2⟩ | ⟨b, o, c', h1, _, _, hrow⟩
        · subst h2; simp at hlt
        · rcases H2.out.below HB.out with ⟨h3, h4⟩ | ⟨b2, o2, c2', h3, _, _, hrow2⟩
          · subst h4; simp at hlt2
          · simp only [Value.slice.injEq] at h1 h3
            obtain ⟨rfl, -, rfl⟩ := h1
            obtain ⟨rfl, -, rfl⟩ := h3
            obtain ⟨c0, c1, c2, c3⟩ := th_row hrow hgk
            obtain ⟨d0, d1, d2, d3⟩ := th_row hrow2 hgy
            have HK := Lib.hid hgk
            have HY := Lib.hid hgy
            have hn := neq_th l m
            unfold Th.val at hn
            clear hrow hrow2 hgk hgy
            by_cases hq : l = m
            · have hqd : decide (l = m) = true := by simp [hq]
              rw [hqd] at hn
              have HE := Lib.hid hq
              clear hq hqd
              go_upto_region 6 with fail
              go_quiet (fail)
              go_wp2_with fail
              go_roundg (xs.length - (k + 1))
              case measure => omega
              case rel => exact ⟨k + 1, by omega, by omega, by go_num, take_stepT HN.out HK.out (HE.out ▸ HY.out), (show Below _ _ _ from by repeat (first | exact HB.out | refine bl_drew ?_ | refine bl_drewN ?_ _))⟩
            · have hqd : decide (l = m) = false := by simp [hq]
              rw [hqd] at hn
              have HE := Lib.hid hq
              clear hq hqd
              go_upto_region 6 with fail
              go_quiet (fail)
              go_wp2_with fail
              rw [HQ.out]
              exact ⟨by rw [decide_eq_false (fun h => HE.out (by have h1 := HK.out; rw [h, HY.out] at h1; exact (Option.some.inj h1).symm))]; rfl, by repeat (first | exact HB.out | refine bl_drew ?_ | refine bl_drewN ?_ _)⟩
      · obtain rfl : k = xs.length := by omega
        have hltz : ¬ ((xs.length : Nat) : Int) < ((xs.length : Nat) : Int) := by omega
        have he : xs = ys := by have := HN.out; rw [List.take_length, HL.out, List.take_length] at this; exact this
        have HEE := Lib.hid he
        clear he
        go_wp2_with fail
        rw [HQ.out]
        exact ⟨by rw [decide_eq_true HEE.out], HB.out⟩
  · have hz : ((xs.length : Int) != (ys.length : Int)) = true := by simpa [bne_iff_ne] using fun h : (xs.length : Int) = ys.length => hl (by omega)
    have HL := Lib.hid hl
    clear hl
    go_enter Try.func25, Try.ntmps25
    go_wp2_with fail
    rw [HQ.out]
    exact ⟨by rw [decide_eq_false fun e => HL.out (by rw [e])]; rfl, Below.refl _ _⟩
set_option maxRecDepth 100000 in
set_option maxHeartbeats 1000000 in
theorem equal_th (v u : Value) (xs ys : List Th) (w : World) (h : SAt Th.cells 4 w v xs) (h2 : SAt Th.cells 4 w u ys) :
    Calls Try.prog 46 #[v, u] w fun e w' => e = .returned (.bool (decide (xs = ys))) ∧ Below w.heap.size w w' := by
  have hlm := h.len
  have hlm2 := h2.len
  unfold maxLen at hlm hlm2
  obtain ⟨A, c, rfl⟩ := h.slice
  obtain ⟨A2, c2, rfl⟩ := h2.slice
  have H := Lib.hid h
  have H2 := Lib.hid h2
  clear h h2
  obtain ⟨Q, hQ⟩ : ∃ Q : Ending → World → Prop, Q = fun e w' => e = .returned (.bool (decide (xs = ys))) ∧ Below w.heap.size w w' := ⟨_, rfl⟩
  rw [← hQ]
  have HQ := Lib.hid hQ
  clear hQ
  by_cases hl : xs.length = ys.length
  · have HL := Lib.hid hl
    have hlz : ((xs.length : Int) != (ys.length : Int)) = false := by rw [hl]; simp
    clear hl
    go_enter Try.func46, Try.ntmps46
    go_wp2_with fail
    go_loopg [13] (xs.length + 1) (fun gg s13 wr => ∃ k : Nat, k ≤ xs.length ∧ xs.length - k ≤ gg ∧ s13 = .int .i64 k ∧ Aside (xs.take k = ys.take k) ∧ Aside (Below w.heap.size w wr))
    case atStart => exact ⟨0, by omega, by omega, rfl, (show xs.take 0 = ys.take 0 by rw [List.take_zero, List.take_zero]), Below.refl _ _⟩
    case round =>
      obtain ⟨k, hk, hgg, rfl, HN, HB⟩ := hrel
      by_cases hlt : k < xs.length
      · have hlt2 : k < ys.length := by have := HL.out; omega
        have hltz : (k : Int) < (ys.length : Int) := by omega
        have hltz2 : (k : Int) < (xs.length : Int) := by omega
        have hgk : xs[k]? = some xs[k] := List.getElem?_eq_getElem hlt
        have hgy : ys[k]? = some ys[k] := List.getElem?_eq_getElem hlt2
        generalize xs[k] = l at hgk
        generalize ys[k] = m at hgy
        rcases H.out.below HB.out with ⟨h1, h2⟩ | ⟨b, o, c', h1, _, _, hrow⟩
        · subst h2; simp at hlt
        · rcases H2.out.below HB.out with ⟨h3, h4⟩ | ⟨b2, o2, c2', h3, _, _, hrow2⟩
          · subst h4; simp at hlt2
          · simp only [Value.slice.injEq] at h1 h3
            obtain ⟨rfl, -, rfl⟩ := h1
            obtain ⟨rfl, -, rfl⟩ := h3
            obtain ⟨c0, c1, c2, c3⟩ := th_row hrow hgk
            obtain ⟨d0, d1, d2, d3⟩ := th_row hrow2 hgy
            have HK := Lib.hid hgk
            have HY := Lib.hid hgy
            have hn := neq_th l m
            unfold Th.val at hn
            clear hrow hrow2 hgk hgy
            by_cases hq : l = m
            · have hqd : decide (l = m) = true := by simp [hq]
              rw [hqd] at hn
              have HE := Lib.hid hq
              clear hq hqd
              go_upto_region 6 with fail
              go_quiet (fail)
              go_wp2_with fail
              go_roundg (xs.length - (k + 1))
              case measure => omega
              case rel => exact ⟨k + 1, by omega, by omega, by go_num, take_stepT HN.out HK.out (HE.out ▸ HY.out), (show Below _ _ _ from by repeat (first | exact HB.out | refine bl_drew ?_ | refine bl_drewN ?_ _))⟩
            · have hqd : decide (l = m) = false := by simp [hq]
              rw [hqd] at hn
              have HE := Lib.hid hq
              clear hq hqd
              go_upto_region 6 with fail
              go_quiet (fail)
              go_wp2_with fail
              rw [HQ.out]
              exact ⟨by rw [decide_eq_false (fun h => HE.out (by have h1 := HK.out; rw [h, HY.out] at h1; exact (Option.some.inj h1).symm))]; rfl, by repeat (first | exact HB.out | refine bl_drew ?_ | refine bl_drewN ?_ _)⟩
      · obtain rfl : k = xs.length := by omega
        have hltz : ¬ ((xs.length : Nat) : Int) < ((xs.length : Nat) : Int) := by omega
        have he : xs = ys := by have := HN.out; rw [List.take_length, HL.out, List.take_length] at this; exact this
        have HEE := Lib.hid he
        clear he
        go_wp2_with fail
        rw [HQ.out]
        exact ⟨by rw [decide_eq_true HEE.out], HB.out⟩
  · have hz : ((xs.length : Int) != (ys.length : Int)) = true := by simpa [bne_iff_ne] using fun h : (xs.length : Int) = ys.length => hl (by omega)
    have HL := Lib.hid hl
    clear hl
    go_enter Try.func46, Try.ntmps46
    go_wp2_with fail
    rw [HQ.out]
    exact ⟨by rw [decide_eq_false fun e => HL.out (by rw [e])]; rfl, Below.refl _ _⟩
/-- A call. -/
structure Ac where
  kind : Int
  name : ByteArray
  n : Int
def Ac.cells (x : Ac) : List Value := [.int .i64 x.kind, .string x.name, .int .i64 x.n]
abbrev Ac.val (x : Ac) : Value := .agg #[.int .i64 x.kind, .string x.name, .int .i64 x.n]
theorem ac_row {w : World} {b o : Nat} {xs : List Ac} (h : RowAt Ac.cells 3 w b o xs) {j : Nat} {x : Ac} (hj : xs[j]? = some x) :
    w.cell? ⟨b, o + j * 3, none⟩ = some (.int .i64 x.kind) ∧ w.cell? ⟨b, o + j * 3 + 1, none⟩ = some (.string x.name) ∧ w.cell? ⟨b, o + j * 3 + 2, none⟩ = some (.int .i64 x.n) := ⟨h j x hj 0 _ rfl, h j x hj 1 _ rfl, h j x hj 2 _ rfl⟩
def fewB (xs : List Ac) (m : Int) : Bool := decide ((xs.length : Int) ≤ m) && xs.all fun x => decide (x.name.size ≤ 200)
set_option maxRecDepth 100000 in
set_option maxHeartbeats 1000000 in
theorem few_any (v : Value) (xs : List Ac) (m : Int) (w : World) (h : SAt Ac.cells 3 w v xs) :
    Calls Try.prog 17 #[v, .int .i64 m] w fun e w' => e = .returned (.bool (fewB xs m)) ∧ w = w' := by
  have hlm := h.len
  unfold maxLen at hlm
  obtain ⟨A, c, rfl⟩ := h.slice
  have H := Lib.hid h
  clear h
  obtain ⟨Q, hQ⟩ : ∃ Q : Ending → World → Prop, Q = fun e w' => e = .returned (.bool (fewB xs m)) ∧ w = w' := ⟨_, rfl⟩
  rw [← hQ]
  have HQ := Lib.hid hQ
  clear hQ
  by_cases hl : m < (xs.length : Int)
  · have hf : fewB xs m = false := by unfold fewB; rw [decide_eq_false (by omega)]; rfl
    have HF := Lib.hid hf
    clear hf
    go_enter Try.func17, Try.ntmps17
    go_wp2_with fail
    rw [HQ.out, HF.out]
    exact ⟨rfl, rfl⟩
  · have HM := Lib.hid hl
    go_enter Try.func17, Try.ntmps17
    go_wp2_with fail
    clear hl
    go_loopg [5] (xs.length + 1) (fun gg s5 wr => ∃ k : Nat, k ≤ xs.length ∧ xs.length - k ≤ gg ∧ s5 = .int .i64 k ∧ wr = w ∧ Aside (∀ j x, j < k → xs[j]? = some x → x.name.size ≤ 200))
    case atStart => exact ⟨0, by omega, by omega, rfl, rfl, fun j x hj => absurd hj (by omega)⟩
    case round =>
      obtain ⟨k, hk, hgg, rfl, rfl, HN⟩ := hrel
      by_cases hlt : k < xs.length
      · have hltz : (k : Int) < (xs.length : Int) := by omega
        have hgk : xs[k]? = some xs[k] := List.getElem?_eq_getElem hlt
        generalize xs[k] = x at hgk
        rcases H.out with ⟨h1, h2⟩ | ⟨b, o, c', h1, _, _, hrow⟩
        · subst h2; simp at hlt
        · simp only [Value.slice.injEq] at h1
          obtain ⟨rfl, -, rfl⟩ := h1
          obtain ⟨c0, c1, c2⟩ := ac_row hrow hgk
          have HK := Lib.hid hgk
          clear hrow hgk
          by_cases hs : x.name.size ≤ 200
          · have hsz : ¬ 200 < (x.name.size : Int) := by omega
            have HSS := Lib.hid hs
            clear hs
            go_wp2_with fail
            go_roundg (xs.length - (k + 1))
            case measure => omega
            case rel =>
              refine ⟨k + 1, by omega, by omega, by go_num, rfl, (show ∀ j z, j < k + 1 → xs[j]? = some z → z.name.size ≤ 200 from fun j z hj hz => ?_)⟩
              by_cases he : j = k
              · subst he; rw [HK.out] at hz; cases hz; exact HSS.out
              · exact HN.out j z (by omega) hz
          · have hsz : 200 < (x.name.size : Int) := by omega
            have hf : fewB xs m = false := by
              unfold fewB
              rw [Bool.and_eq_false_iff]
              right
              exact List.all_eq_false.2 ⟨x, List.mem_of_getElem? HK.out, by simp; omega⟩
            have HF := Lib.hid hf
            clear hf hs
            go_wp2_with fail
            rw [HQ.out, HF.out]
            exact ⟨rfl, rfl⟩
      · obtain rfl : k = xs.length := by omega
        have hltz : ¬ ((xs.length : Nat) : Int) < ((xs.length : Nat) : Int) := by omega
        have hf : fewB xs m = true := by
          unfold fewB
          rw [decide_eq_true (by have := HM.out; omega), Bool.true_and]
          exact List.all_eq_true.2 fun x hx => by
            obtain ⟨j, hj⟩ := List.getElem?_of_mem hx
            exact decide_eq_true (HN.out j x (List.getElem?_eq_some_iff.1 hj).1 hj)
        have HF := Lib.hid hf
        clear hf
        go_wp2_with fail
        rw [HQ.out, HF.out]
        exact ⟨rfl, rfl⟩
end Go.Proofs.Ytojeombljhmkaaa
/- Soft: same. -/
namespace Go.Proofs.Ytojeombljhmkaaa
open Go.RowKit Go.Shelf Go.Sort
set_option linter.unusedVariables false
set_option linter.unusedSimpArgs false
attribute [local go_sem] Oper.semAt_some
set_option maxRecDepth 100000 in
set_option maxHeartbeats 1000000 in
theorem same_any (p r : Nat) (now : Int) (L : List Th) (es : List (Nat × Th)) (v : Value) (w : World) (h : Tb w p r now L es) (hs : SAt Th.cells 4 w v L) :
    Calls Try.prog 19 #[.pointer (some ⟨p, 0, none⟩), .agg #[.int .i64 now, v]] w fun e w' => e = .returned (.bool true) ∧ Below w.heap.size w w' := by
  obtain ⟨A, c, rfl⟩ := hs.slice
  obtain ⟨Q, hQ⟩ : ∃ Q : Ending → World → Prop, Q = fun e w' => e = .returned (.bool true) ∧ Below w.heap.size w w' := ⟨_, rfl⟩
  rw [← hQ]
  have HQ := Lib.hid hQ
  obtain ⟨w1, hw1⟩ : ∃ w1, w1 = w.alloc (.cells #[.int .i64 now, .slice A L.length c] 47) := ⟨_, rfl⟩
  have hb1 : Below w.heap.size w w1 := hw1 ▸ bl_alloc (Below.refl _ _) _
  have hk1 : w1.heap[w.heap.size]? = some (.cells #[.int .i64 now, .slice A L.length c] 47 (0, 0)) := by rw [hw1]; exact at_alloc rfl
  obtain ⟨x0, x1, -, -⟩ := cells2 hk1
  have HX : Hid (∀ W, Below w1.heap.size w1 W → (fun w' => w'.cell? ⟨w.heap.size, 0, none⟩ = some (.int .i64 now) ∧ w'.cell? ⟨w.heap.size, 1, none⟩ = some (.slice A L.length c)) W) := Lib.hid fun W hW => ⟨bl_cell hW x0, bl_cell hW x1⟩
  have HTB : Hid (∀ W, Below w1.heap.size w1 W → Tb W p r now L es) := Lib.hid fun W hW => h.below (bl_then hb1 hW)
  have HSB : Hid (∀ W, Below w1.heap.size w1 W → SAt Th.cells 4 W (.slice A L.length c) L) := Lib.hid fun W hW => hs.below (bl_then hb1 hW)
  have HB1 := Lib.hid hb1
  have HW1 := Lib.hid hw1
  have hli := list_all p r now L es w1.drew (h.below (bl_then hb1 (bl_drew (Below.refl _ _))))
  have HLI := Lib.hid hli
  have HST : Hid (∀ W u, SAt Th.cells 4 W u L → Below w1.heap.size w1 W → Calls Try.prog 25 #[u, .slice A L.length c] W fun e w' => e = .returned (.bool true) ∧ Below W.heap.size W w') := Lib.hid fun W u hu hW => by
    have h := things_any u (.slice A L.length c) L L W hu (hs.below (bl_then hb1 hW))
    rw [show decide (L = L) = true from decide_eq_true rfl] at h
    exact h
  clear hli
  have hnow : (now == now) = true := by simp
  have hlen : ((L.length : Int) == (L.length : Int)) = true := by simp
  clear hQ h hs hw1 hb1 hk1
  go_enter Try.func19, Try.ntmps19
  go_upto_region 1 with fail
  rw [← HW1.out]
  first
  | go_region_held3 (fun w' => w'.cell? ⟨w.heap.size, 0, none⟩ = some (.int .i64 now) ∧ w'.cell? ⟨w.heap.size, 1, none⟩ = some (.slice A L.length c))
      (exact HX.out _ (by solve | exact hbw5 | exact hbw4 | exact bl_drew (Below.refl _ _) | exact Below.refl _ _))
      (first
        | (go_at_call 28; refine (now_any p r now es _ (HTB.out _ (by solve | exact bl_drew (Below.refl _ _) | exact Below.refl _ _)).tab).mono ?_; rintro e w3 ⟨rfl, rfl⟩)
        | (go_at_call 12; refine (len_all p r now L es _ (HTB.out _ (by solve | exact bl_drew (Below.refl _ _) | exact Below.refl _ _))).mono ?_; rintro e w3 ⟨rfl, rfl⟩)
        | (go_at_call 27; refine HLI.out.mono ?_; rintro e w4 ⟨⟨u, rfl, ho⟩, hb4⟩; have hbw4 : Below w1.heap.size w1 w4 := bl_then (by solve | exact bl_drew (Below.refl _ _) | exact Below.refl _ _) hb4; obtain ⟨A4, c4, rfl⟩ := own_form ho; have HSAT := Lib.hid (own_sat ho); clear ho)
        | (go_at_call 25; refine (HST.out _ _ HSAT.out hbw4).mono ?_; rintro e w5 ⟨rfl, hb5⟩; have hbw5 : Below w1.heap.size w1 w5 := bl_then hbw4 hb5))
  | fail "held3"
  all_goals
    have HF5 := Lib.hid (bl_then HB1.out hbw5)
    clear hbw5 hbw4 hb5 hb4
    go_wp2_with fail
    rw [HQ.out]
    exact ⟨rfl, HF5.out⟩
end Go.Proofs.Ytojeombljhmkaaa
