/- Soft: Hear, Drop, Get. -/
import Derived.Test.YtojeombljhmkaaaSoftF
import Derived.Test.YtojeombljhmkaaaDel
namespace Go.Proofs.Ytojeombljhmkaaa
open Go.RowKit Go.Shelf
set_option linter.unusedVariables false
set_option linter.unusedSimpArgs false
attribute [local go_sem] Oper.semAt_some
theorem life_le (n : Int) : 0 ≤ lifeI n ∧ lifeI n ≤ 5250001 := by
  unfold lifeI
  split <;> omega
theorem findR_yes {es : List (Nat × Th)} {s : ByteArray} {e : Nat × Th} (hq : namedB s = true) (hg : getT es s = some e) : findR es s = (.pointer (some ⟨e.1, 0, none⟩), 0) := by
  unfold findR
  rw [if_pos hq, hg]
theorem set4 {w : World} {b : Nat} {v0 v1 v2 v3 a0 a1 a2 a3 : Value} {t : TypeId} {fr : Nat × Nat} (h : w.heap[b]? = some (.cells #[v0, v1, v2, v3] t fr)) :
    ∀ o v, #[a0, a1, a2, a3][o]? = some v → ((((w.setCell ⟨b, 0, none⟩ a0).setCell ⟨b, 1, none⟩ a1).setCell ⟨b, 2, none⟩ a2).setCell ⟨b, 3, none⟩ a3).cell? ⟨b, o, none⟩ = some v := by
  have h2 : ((((w.setCell ⟨b, 0, none⟩ a0).setCell ⟨b, 1, none⟩ a1).setCell ⟨b, 2, none⟩ a2).setCell ⟨b, 3, none⟩ a3).heap[b]? = some (.cells #[a0, a1, a2, a3] t fr) := by
    simp [World.setCell, Array.getElem?_modify, h]
  intro o v hv
  rw [cell_blk h2]
  exact hv
theorem new4 {w w1 : World} {v0 v1 v2 v3 : Value} {t : TypeId} (hb : Below (w.alloc (.cells #[v0, v1, v2, v3] t)).heap.size (w.alloc (.cells #[v0, v1, v2, v3] t)) w1) : w1.heap[w.heap.size]? = some (.cells #[v0, v1, v2, v3] t (0, 0)) :=
  (hb.block w.heap.size (by simp)).trans (at_alloc rfl)
theorem cells4 {w1 : World} {b : Nat} {v0 v1 v2 v3 : Value} {t : TypeId} (h : w1.heap[b]? = some (.cells #[v0, v1, v2, v3] t (0, 0))) :
    w1.cell? ⟨b, 0, none⟩ = some v0 ∧ w1.cell? ⟨b, 1, none⟩ = some v1 ∧ w1.cell? ⟨b, 2, none⟩ = some v2 ∧ w1.cell? ⟨b, 3, none⟩ = some v3 ∧
    w1.frozen? ⟨b, 0, none⟩ = false ∧ w1.frozen? ⟨b, 1, none⟩ = false ∧ w1.frozen? ⟨b, 2, none⟩ = false ∧ w1.frozen? ⟨b, 3, none⟩ = false := by
  refine ⟨by rw [cell_blk h]; rfl, by rw [cell_blk h]; rfl, by rw [cell_blk h]; rfl, by rw [cell_blk h]; rfl, ?_, ?_, ?_, ?_⟩ <;> simp [World.frozen?, h]
set_option maxRecDepth 20000 in
set_option maxHeartbeats 400000 in
theorem hear_none (v : Value) (s : ByteArray) (w : World) (h : NoTab w v) :
    Calls Try.prog 16 #[v, .string s] w fun e w' => e = .returned (.int .i64 1) ∧ w = w' := by
  have hn := find_none v s w h
  clear h
  go_enter Try.func16, Try.ntmps16
  go_wp2_with (go_at_call 39; refine hn.mono ?_; rintro e w' ⟨rfl, rfl⟩)
  go_ret
  exact ⟨rfl, rfl⟩
set_option maxRecDepth 20000 in
set_option maxHeartbeats 400000 in
theorem hear_no (p r : Nat) (now : Int) (es : List (Nat × Th)) (s : ByteArray) (w : World) (h : TAt w p r now es) (hz : (findR es s).2 ≠ 0) :
    Calls Try.prog 16 #[.pointer (some ⟨p, 0, none⟩), .string s] w fun e w' => e = .returned (.int .i64 (findR es s).2) ∧ Below w.heap.size w w' := by
  have HF := Lib.hid (find_any p r now es s w h)
  have H := Lib.hid h
  generalize (findR es s).1 = v at HF
  generalize (findR es s).2 = y at HF hz ⊢
  have hy0 : (y == 0) = false := beq_eq_false_iff_ne.2 hz
  clear h hz
  go_enter Try.func16, Try.ntmps16
  go_wp2_with (go_at_call 39; refine HF.out.mono ?_; rintro e w1 ⟨rfl, hb⟩; have HB1 := Lib.hid hb; have H1 := Lib.hid (H.out.below hb); clear hb)
  go_ret
  exact ⟨rfl, HB1.out⟩
set_option maxRecDepth 20000 in
set_option maxHeartbeats 400000 in
theorem hear_yes (p r : Nat) (now : Int) (es : List (Nat × Th)) (s : ByteArray) (b : Nat) (x : Th) (w : World) (h : TAt w p r now es) (hnow : 0 ≤ now ∧ now ≤ 2147483647) (hq : namedB s = true) (hg : getT es s = some (b, x)) :
    Calls Try.prog 16 #[.pointer (some ⟨p, 0, none⟩), .string s] w fun e w' => e = .returned (.int .i64 0) ∧ TAt w' p r now (updT es b ⟨x.name, x.period, x.next, now + lifeI x.period⟩) ∧ MovS (TSet p r es) w w' := by
  have HF := Lib.hid (find_any p r now es s w h)
  rw [findR_yes hq hg] at HF
  have H := Lib.hid h
  have HG := Lib.hid hg
  obtain ⟨q, hq'⟩ : ∃ q, lifeI x.period = q := ⟨_, rfl⟩
  have hq1 : 0 ≤ q ∧ q ≤ 5250001 := by have := life_le x.period; omega
  rw [hq']
  have HL := Lib.hid hq'
  have HW : Hid (IntKind.i64.wrap (now + q) = now + q) := Lib.hid (by rw [IntKind.wrap_i64]; omega)
  obtain ⟨R, hR⟩ : ∃ R : Ending → World → Prop, R = fun e w' => e = .returned (.int .i64 0) ∧ TAt w' p r now (updT es b ⟨x.name, x.period, x.next, now + q⟩) ∧ MovS (TSet p r es) w w' := ⟨_, rfl⟩
  rw [← hR]
  have HR := Lib.hid hR
  have HIN : Hid (TSet p r es b) := Lib.hid (.inr (.inr (List.mem_map.2 ⟨_, (getT_mem hg).1, rfl⟩)))
  clear h hq hg hq' hR hq1 hnow
  go_enter Try.func16, Try.ntmps16
  go_upto_region 3 with (go_at_call 39; refine HF.out.mono ?_; rintro e w1 ⟨rfl, hb⟩; have HB1 := Lib.hid hb; have H1 := Lib.hid (H.out.below hb); clear hb)
  have hmem := (getT_mem HG.out).1
  have HM4 := Lib.hid (MovS.ofBelow (S := TSet p r es) HB1.out)
  obtain ⟨⟨d0, d1, d2, d3⟩, hfz⟩ := at_thing H1.out hmem
  have f3 := hfz 3
  obtain ⟨e0, e1⟩ := H1.out.cells
  have HME4 := Lib.hid hmem
  clear hfz hmem
  first
  | go_region_law ((go_simp; refine (life_any x.period _).mono ?_; rintro e w5 ⟨rfl, rfl⟩; rw [HL.out]))
  | fail "law"
  all_goals rw [HW.out]
  all_goals have HT5 := Lib.hid ((set_forgot H1.out HME4.out (now + q)).drew)
  all_goals have HM5 := Lib.hid ((HM4.out.set (q := ⟨b, 3, none⟩) (v := .int .i64 (now + q)) (.inr HIN.out)).then (bl_drew (Below.refl _ _)))
  all_goals generalize (w1.setCell ⟨b, 3, none⟩ (.int .i64 (now + q))).drew = w5 at HT5 HM5 ⊢
  all_goals go_wp2_with fail
  all_goals
    rw [HR.out]
    exact ⟨rfl, HT5.out, HM5.out⟩
set_option maxRecDepth 20000 in
set_option maxHeartbeats 400000 in
theorem drop_none (v : Value) (s : ByteArray) (w : World) (h : NoTab w v) :
    Calls Try.prog 26 #[v, .string s] w fun e w' => e = .returned (.int .i64 1) ∧ w = w' := by
  have hn := find_none v s w h
  clear h
  go_enter Try.func26, Try.ntmps26
  go_wp2_with (go_at_call 39; refine hn.mono ?_; rintro e w' ⟨rfl, rfl⟩)
  go_ret
  exact ⟨rfl, rfl⟩
set_option maxRecDepth 20000 in
set_option maxHeartbeats 400000 in
theorem drop_no (p r : Nat) (now : Int) (es : List (Nat × Th)) (s : ByteArray) (w : World) (h : TAt w p r now es) (hz : (findR es s).2 ≠ 0) :
    Calls Try.prog 26 #[.pointer (some ⟨p, 0, none⟩), .string s] w fun e w' => e = .returned (.int .i64 (findR es s).2) ∧ Below w.heap.size w w' := by
  have HF := Lib.hid (find_any p r now es s w h)
  have H := Lib.hid h
  generalize (findR es s).1 = v at HF
  generalize (findR es s).2 = y at HF hz ⊢
  have hy0 : (y == 0) = false := beq_eq_false_iff_ne.2 hz
  clear h hz
  go_enter Try.func26, Try.ntmps26
  go_wp2_with (go_at_call 39; refine HF.out.mono ?_; rintro e w1 ⟨rfl, hb⟩; have HB1 := Lib.hid hb; have H1 := Lib.hid (H.out.below hb); clear hb)
  go_ret
  exact ⟨rfl, HB1.out⟩
theorem TAt.deleted {w w3 : World} {p r : Nat} {now : Int} {es : List (Nat × Th)} {s : ByteArray} (h : TAt w p r now es)
    (hm : MapOf encS w3 r (mdel (es.map fun e => (e.2.name, Value.pointer (some ⟨e.1, 0, none⟩))) s)) (hg : w.grownBy w3 (some r)) : TAt w3 p r now (es.filter fun e => e.2.name ≠ s) ∧ MovS (TSet p r es) w w3 :=
  ⟨h.gone hm fun i hi hir => hg.block i hi (fun e => hir (Option.some.inj e)), (MovS.refl _ _).grown hg (.inr (.inr (.inl rfl)))⟩
set_option maxRecDepth 20000 in
set_option maxHeartbeats 400000 in
theorem drop_yes (p r : Nat) (now : Int) (es : List (Nat × Th)) (s : ByteArray) (b : Nat) (x : Th) (w : World) (h : TAt w p r now es) (hq : namedB s = true) (hg : getT es s = some (b, x)) :
    Calls Try.prog 26 #[.pointer (some ⟨p, 0, none⟩), .string s] w fun e w' => e = .returned (.int .i64 0) ∧ TAt w' p r now (es.filter fun e => e.2.name ≠ s) ∧ MovS (TSet p r es) w w' := by
  have HF := Lib.hid (find_any p r now es s w h)
  rw [findR_yes hq hg] at HF
  have H := Lib.hid h
  obtain ⟨R, hR⟩ : ∃ R : Ending → World → Prop, R = fun e w' => e = .returned (.int .i64 0) ∧ TAt w' p r now (es.filter fun e => e.2.name ≠ s) ∧ MovS (TSet p r es) w w' := ⟨_, rfl⟩
  rw [← hR]
  have HR := Lib.hid hR
  clear h hq hg hR
  go_enter Try.func26, Try.ntmps26
  go_upto_region 3 with (go_at_call 39; refine HF.out.mono ?_; rintro e w1 ⟨rfl, hb⟩; have HB1 := Lib.hid hb; have H1 := Lib.hid (H.out.below hb); clear hb)
  obtain ⟨e0, e1⟩ := H1.out.cells
  obtain ⟨w3, hrun, hm3, hg3, hz3⟩ := run_delete (P := Try.prog) (ty := 0) klawS Try.underlying63 H1.out.map s
  have hrun : ((Builtin.delete_ #[63, 9] 0 #[.map (some r), .string s]).run Try.prog w1) = .ok (.tuple #[]) w3 := hrun
  have ht := Lib.hid (H1.out.deleted hm3 hg3)
  clear hm3 hg3 hz3
  go_wp2_with fail
  all_goals
    rw [HR.out]
    exact ⟨rfl, ht.out.1, (MovS.ofBelow HB1.out).trans ht.out.2 (fun _ _ h => h)⟩
set_option maxRecDepth 20000 in
set_option maxHeartbeats 400000 in
theorem get_none (v : Value) (s : ByteArray) (w : World) (h : NoTab w v) :
    Calls Try.prog 14 #[v, .string s] w fun e w' => e = .returned (.tuple #[.agg #[.string ByteArray.empty, .int .i64 0, .int .i64 0, .int .i64 0], .bool false]) ∧ Below w.heap.size w w' := by
  have hn := fun o => find_none v s (w.alloc o) (h.below (bl_alloc (Below.refl _ _) _))
  clear h
  go_enter Try.func14, Try.ntmps14
  go_wp2_with (go_at_call 39; refine (hn _).mono ?_; rintro e w' ⟨rfl, rfl⟩)
  refine bodyPost_ret (v := .tuple #[.agg #[.string ByteArray.empty, .int .i64 0, .int .i64 0, .int .i64 0], .bool false]) (by simp [results, Try.results14, go_sem]; rfl) rfl ⟨rfl, ?_⟩
  repeat (first | exact Below.refl _ _ | refine bl_alloc ?_ _ | refine bl_set ?_ (by simp <;> omega) _)
set_option maxRecDepth 20000 in
set_option maxHeartbeats 400000 in
theorem get_no (p r : Nat) (now : Int) (es : List (Nat × Th)) (s : ByteArray) (w : World) (h : TAt w p r now es) (hz : (findR es s).2 ≠ 0) :
    Calls Try.prog 14 #[.pointer (some ⟨p, 0, none⟩), .string s] w fun e w' => e = .returned (.tuple #[.agg #[.string ByteArray.empty, .int .i64 0, .int .i64 0, .int .i64 0], .bool false]) ∧ Below w.heap.size w w' := by
  have HF := Lib.hid (fun o => find_any p r now es s (w.alloc o) (h.below (bl_alloc (Below.refl _ _) _)))
  have H := Lib.hid h
  generalize (findR es s).1 = v at HF
  generalize (findR es s).2 = y at HF hz
  have hy0 : (y != 0) = true := by simpa [bne_iff_ne] using hz
  clear h hz
  go_enter Try.func14, Try.ntmps14
  go_wp2_with (go_at_call 39; refine (HF.out _).mono ?_; rintro e w1 ⟨rfl, hb⟩; have HB1 := Lib.hid (bl_then (bl_alloc (Below.refl _ _) _) hb); have hbk := new4 hb; obtain ⟨c0, c1, c2, c3, f0, f1, f2, f3⟩ := cells4 hbk; have HBK := Lib.hid hbk; clear hbk; clear hb)
  have S4 := set4 (a0 := .string ⟨#[]⟩) (a1 := .int .i64 0) (a2 := .int .i64 0) (a3 := .int .i64 0) HBK.out
  have s0 := S4 0 _ rfl
  have s1 := S4 1 _ rfl
  have s2 := S4 2 _ rfl
  have s3 := S4 3 _ rfl
  refine bodyPost_ret (v := .tuple #[.agg #[.string ByteArray.empty, .int .i64 0, .int .i64 0, .int .i64 0], .bool false]) (by simp [results, Try.results14, go_sem, s0, s1, s2, s3]; rfl) rfl ⟨rfl, ?_⟩
  repeat (first | exact HB1.out | refine bl_alloc ?_ _ | refine bl_set ?_ (by simp <;> omega) _)
set_option maxRecDepth 20000 in
set_option maxHeartbeats 400000 in
theorem get_yes (p r : Nat) (now : Int) (es : List (Nat × Th)) (s : ByteArray) (b : Nat) (x : Th) (w : World) (h : TAt w p r now es) (hq : namedB s = true) (hg : getT es s = some (b, x)) :
    Calls Try.prog 14 #[.pointer (some ⟨p, 0, none⟩), .string s] w fun e w' => e = .returned (.tuple #[x.val, .bool true]) ∧ Below w.heap.size w w' := by
  have HF := Lib.hid (fun o => find_any p r now es s (w.alloc o) (h.below (bl_alloc (Below.refl _ _) _)))
  rw [findR_yes hq hg] at HF
  have H := Lib.hid h
  have HME := Lib.hid (getT_mem hg).1
  have HLT : Hid (b < w.heap.size) := Lib.hid (h.lt b (.inr (.inr (List.mem_map.2 ⟨_, (getT_mem hg).1, rfl⟩))))
  clear h hq hg
  obtain ⟨xn, xp, xx, xf⟩ := x
  go_enter Try.func14, Try.ntmps14
  go_wp2_with (go_at_call 39; refine (HF.out _).mono ?_; rintro e w1 ⟨rfl, hb⟩; have HB1 := Lib.hid (bl_then (bl_alloc (Below.refl _ _) _) hb); have hbk := new4 hb; obtain ⟨c0, c1, c2, c3, f0, f1, f2, f3⟩ := cells4 hbk; have HBK := Lib.hid hbk; clear hbk; obtain ⟨⟨d0, d1, d2, d3⟩, -⟩ := at_thing (H.out.below HB1.out) HME.out; clear hb)
  have S4 := set4 (a0 := .string xn) (a1 := .int .i64 xp) (a2 := .int .i64 xx) (a3 := .int .i64 xf) HBK.out
  have s0 := S4 0 _ rfl
  have s1 := S4 1 _ rfl
  have s2 := S4 2 _ rfl
  have s3 := S4 3 _ rfl
  refine bodyPost_ret (v := .tuple #[.agg #[.string xn, .int .i64 xp, .int .i64 xx, .int .i64 xf], .bool true]) (by simp [results, Try.results14, go_sem, s0, s1, s2, s3]) rfl ⟨rfl, ?_⟩
  repeat (first | exact HB1.out | refine bl_alloc ?_ _ | refine bl_set ?_ (by simp <;> omega) _)
end Go.Proofs.Ytojeombljhmkaaa
