/- Soft: Keep. -/
import Derived.Test.YtojeombljhmkaaaSoftE
namespace Go.Proofs.Ytojeombljhmkaaa
open Go.RowKit Go.Shelf
set_option linter.unusedVariables false
set_option linter.unusedSimpArgs false
attribute [local go_sem] Oper.semAt_some
theorem wrap_in {n : Int} (h : -9223372036854775808 ≤ n ∧ n ≤ 9223372036854775807) : wrap64 n = n := by unfold wrap64; omega
theorem life_pos {n : Int} (h : 1 ≤ n ∧ n ≤ 1000000) : 5 < lifeI n ∧ lifeI n ≤ 5250001 := by
  unfold lifeI
  rw [if_neg (by omega)]
  omega
theorem life_zero {n : Int} : lifeI n = 0 ↔ ¬(1 ≤ n ∧ n ≤ 1000000) := by
  unfold lifeI
  split <;> omega
set_option maxRecDepth 20000 in
set_option maxHeartbeats 400000 in
theorem keep_long (p r : Nat) (now : Int) (es : List (Nat × Th)) (s : ByteArray) (n : Int) (w : World) (h : TAt w p r now es) (hq : namedB s = true) (hl : 1 ≤ n ∧ n ≤ 1000000) (hg : getT es s = none) (hlen : 256 ≤ es.length) :
    Calls Try.prog 11 #[.pointer (some ⟨p, 0, none⟩), .string s, .int .i64 n] w fun e w' => e = .returned (.tuple #[.bool false, .int .i64 3]) ∧ Below w.heap.size w w' := by
  obtain ⟨c0, c1⟩ := h.cells
  have HNA := Lib.hid (named_any s w.heap.size (w.alloc (.cells #[.string s] 9)) (by go_simp))
  rw [hq] at HNA
  have HN := Lib.hid (none_no p r w c1)
  have H := Lib.hid h
  have HG := Lib.hid hg
  obtain ⟨q, hq'⟩ : ∃ q, lifeI n = q := ⟨_, rfl⟩
  have hq0 : (q == 0) = false := beq_eq_false_iff_ne.2 (by have := life_pos hl; omega)
  have HL := Lib.hid hq'
  obtain ⟨k, hk⟩ : ∃ k : Int, (es.length : Int) = k := ⟨_, rfl⟩
  have hk2 : 256 ≤ k := by omega
  have HLEN := Lib.hid hk
  clear c0 c1 h hq hg hl hq' hk hlen
  go_enter Try.func11, Try.ntmps11
  go_wp2
  refine wp_scope_fwd 0 rfl ?_
  go_wp2_with (first | (go_at_call 30; refine HN.out.mono ?_; rintro e w' ⟨rfl, rfl⟩) | (go_at_call 31; refine HNA.out.mono ?_; rintro e w1 ⟨rfl, hb⟩; have HB1 := Lib.hid (bl_then (bl_alloc (Below.refl _ _) _) hb); clear hb; have H1 := Lib.hid (H.out.below HB1.out); have c0 := H1.out.cells.1; have c1 := H1.out.cells.2; have hlk := look_T H1.out s; rw [HG.out] at hlk; simp only [Option.map_none, Option.getD_none, Option.map_some, Option.getD_some] at hlk; have hml := mlen_T H1.out; simp only [HLEN.out] at hml) | (go_at_call 15; refine (life_any n _).mono ?_; rintro e w2 ⟨rfl, rfl⟩; rw [HL.out]))
  refine wp_goto ?_; show (0 = 0 ∧ _); refine ⟨rfl, ?_⟩; go_wp2; rw [Exit.noGoto_ret]; go_ret2
  exact ⟨rfl, HB1.out⟩
/-- What Keep has done behind the map's update. -/
theorem keep_mid {w1 w3 : World} {p r : Nat} {now : Int} {es : List (Nat × Th)} {s : ByteArray} (h : TAt w1 p r now es) (hg : getT es s = none)
    (hm3 : MapOf encS w3 r (mput (es.map fun e => (e.2.name, Value.pointer (some ⟨e.1, 0, none⟩))) s (.pointer (some ⟨w1.heap.size, 0, none⟩))))
    (hg3 : (w1.alloc (.cells #[.string s, .int .i64 0, .int .i64 0, .int .i64 0] 35)).grownBy w3 (some r)) :
    TAt w3 p r now (es ++ [(w1.heap.size, ⟨s, 0, 0, 0⟩)]) ∧ MovS (TSet p r es) w1 w3 := by
  have hr := h.map.lt
  refine ⟨h.more (.inl rfl) hm3 hg ?_ fun i hi hir => ?_, (MovS.ofBelow (bl_alloc (Below.refl _ _) _)).grown hg3 (.inr (.inr (.inl rfl)))⟩
  · exact (hg3.block w1.heap.size (by simp) (by intro e; have := Option.some.inj e; omega)).trans (at_alloc rfl)
  · exact (hg3.block i (by simp; omega) (by intro e; exact hir (Option.some.inj e))).trans ((bl_alloc (Below.refl _ _) _).block i hi)
theorem at_thing {w : World} {p r : Nat} {now : Int} {es : List (Nat × Th)} (h : TAt w p r now es) {b : Nat} {x : Th} (hb : (b, x) ∈ es) :
    (w.cell? ⟨b, 0, none⟩ = some (.string x.name) ∧ w.cell? ⟨b, 1, none⟩ = some (.int .i64 x.period) ∧ w.cell? ⟨b, 2, none⟩ = some (.int .i64 x.next) ∧ w.cell? ⟨b, 3, none⟩ = some (.int .i64 x.forgot)) ∧ ∀ o, w.frozen? ⟨b, o, none⟩ = false := by
  have hk := h.each _ hb
  refine ⟨⟨by rw [cell_blk hk]; rfl, by rw [cell_blk hk]; rfl, by rw [cell_blk hk]; rfl, by rw [cell_blk hk]; rfl⟩, fun o => ?_⟩
  simp [World.frozen?, hk]
theorem mem_updT {es : List (Nat × Th)} {b : Nat} {x y : Th} (hb : (b, x) ∈ es) : (b, y) ∈ updT es b y := List.mem_map.2 ⟨_, hb, by simp⟩
theorem set_period {w : World} {p r : Nat} {now : Int} {es : List (Nat × Th)} (h : TAt w p r now es) {b : Nat} {x : Th} (hb : (b, x) ∈ es) (n m : Int) :
    TAt ((w.setCell ⟨b, 1, none⟩ (.int .i64 n)).setCell ⟨b, 2, none⟩ (.int .i64 m)) p r now (updT es b ⟨x.name, n, m, x.forgot⟩) :=
  h.upd hb rfl (heap_set (heap_set (h.each _ hb))) fun i hi hib => (heap_set_other hib).trans (heap_set_other hib)
theorem set_forgot {w : World} {p r : Nat} {now : Int} {es : List (Nat × Th)} (h : TAt w p r now es) {b : Nat} {x : Th} (hb : (b, x) ∈ es) (n : Int) :
    TAt (w.setCell ⟨b, 3, none⟩ (.int .i64 n)) p r now (updT es b ⟨x.name, x.period, x.next, n⟩) :=
  h.upd hb rfl (heap_set (h.each _ hb)) fun i hi hib => heap_set_other hib
theorem updT_twice (es : List (Nat × Th)) (b : Nat) (x y : Th) : updT (updT es b x) b y = updT es b y := by
  unfold updT
  rw [List.map_map]
  refine List.map_congr_left fun e _ => ?_
  show (if (if e.1 = b then (b, x) else e).1 = b then (b, y) else (if e.1 = b then (b, x) else e)) = _
  by_cases h : e.1 = b <;> simp [h]
theorem updT_new {es : List (Nat × Th)} {b : Nat} (x y : Th) (h : ∀ e ∈ es, e.1 ≠ b) : updT (es ++ [(b, x)]) b y = es ++ [(b, y)] := by
  unfold updT
  rw [List.map_append]
  congr 1
  · refine (List.map_congr_left fun e he => ?_).trans (List.map_id es)
    rw [if_neg (h e he)]
    rfl
  · simp
theorem TAt.drew {w : World} {p r : Nat} {now : Int} {es : List (Nat × Th)} (h : TAt w p r now es) : TAt w.drew p r now es := h.below (bl_drew (Below.refl _ _))
set_option maxRecDepth 20000 in
set_option maxHeartbeats 400000 in
theorem keep_new (p r : Nat) (now : Int) (es : List (Nat × Th)) (s : ByteArray) (n : Int) (w : World) (h : TAt w p r now es) (hnow : 0 ≤ now ∧ now ≤ 2147483647) (hq : namedB s = true) (hl : 1 ≤ n ∧ n ≤ 1000000) (hg : getT es s = none) (hlen : es.length < 256) :
    Calls Try.prog 11 #[.pointer (some ⟨p, 0, none⟩), .string s, .int .i64 n] w fun e w' => e = .returned (.tuple #[.bool true, .int .i64 0]) ∧ ∃ b, w.heap.size ≤ b ∧ TAt w' p r now (es ++ [(b, ⟨s, n, now + n, now + lifeI n⟩)]) ∧ MovS (TSet p r es) w w' := by
  obtain ⟨c0, c1⟩ := h.cells
  have HNA := Lib.hid (named_any s w.heap.size (w.alloc (.cells #[.string s] 9)) (by go_simp))
  rw [hq] at HNA
  have HN := Lib.hid (none_no p r w c1)
  have H := Lib.hid h
  have HG := Lib.hid hg
  obtain ⟨q, hq'⟩ : ∃ q, lifeI n = q := ⟨_, rfl⟩
  have hq1 : 5 < q ∧ q ≤ 5250001 := by have := life_pos hl; omega
  have hq0 : (q == 0) = false := beq_eq_false_iff_ne.2 (by omega)
  rw [hq']
  have HL := Lib.hid hq'
  obtain ⟨k, hk⟩ : ∃ k : Int, (es.length : Int) = k := ⟨_, rfl⟩
  have hk2 : decide (256 ≤ k) = false := by simp; omega
  have HLEN := Lib.hid hk
  have hn1 : ((0 : Int) != n) = true := by simpa [bne_iff_ne] using (by omega : ¬ (0 : Int) = n)
  have hs1 : wrap64 (now + n) = now + n := wrap_in (by omega)
  have hs2 : wrap64 (now + q) = now + q := wrap_in (by omega)
  have HW : Hid (IntKind.i64.wrap (now + q) = now + q) := Lib.hid (by rw [IntKind.wrap_i64]; omega)
  obtain ⟨R, hR⟩ : ∃ R : Ending → World → Prop, R = fun e w' => e = .returned (.tuple #[.bool true, .int .i64 0]) ∧ ∃ b, w.heap.size ≤ b ∧ TAt w' p r now (es ++ [(b, ⟨s, n, now + n, now + q⟩)]) ∧ MovS (TSet p r es) w w' := ⟨_, rfl⟩
  rw [← hR]
  have HR := Lib.hid hR
  obtain ⟨h3, h4⟩ := hl
  obtain ⟨h5, h6⟩ := hnow
  obtain ⟨h7, h8⟩ := hq1
  clear c0 c1 h hq hg hq' hk hlen hR
  go_enter Try.func11, Try.ntmps11; go_wp2; refine wp_scope_fwd 0 rfl ?_
  go_upto_region 12 with (first | (go_at_call 30; refine HN.out.mono ?_; rintro e w' ⟨rfl, rfl⟩) | (go_at_call 31; refine HNA.out.mono ?_; rintro e w1 ⟨rfl, hb⟩; have HB1 := Lib.hid (bl_then (bl_alloc (Below.refl _ _) _) hb); clear hb; have H1 := Lib.hid (H.out.below HB1.out); have c0 := H1.out.cells.1; have c1 := H1.out.cells.2; have hlk := look_T H1.out s; rw [HG.out] at hlk; simp only [Option.map_none, Option.getD_none, Option.map_some, Option.getD_some] at hlk; have hml := mlen_T H1.out; simp only [HLEN.out] at hml) | (go_at_call 15; refine (life_any n _).mono ?_; rintro e w2 ⟨rfl, rfl⟩; rw [HL.out]))
  have b1 := bl_cell (bl_alloc (Below.refl w1.heap.size w1) (.cells #[.string s, .int .i64 0, .int .i64 0, .int .i64 0] 35)) c1
  obtain ⟨w3, hrun, hm3, hg3, hz3⟩ := run_store (P := Try.prog) klawS Try.underlying63 (H1.out.map.below (bl_alloc (Below.refl _ _) (.cells #[.string s, .int .i64 0, .int .i64 0, .int .i64 0] 35))) s (.pointer (some ⟨w1.heap.size, 0, none⟩))
  have hrun : (Instr.mapUpdate 63 (.map (some r)) (.string s) (.pointer (some ⟨w1.heap.size, 0, none⟩))).run Try.prog (w1.alloc (.cells #[.string s, .int .i64 0, .int .i64 0, .int .i64 0] 35)) = .ok () w3 := hrun
  obtain ⟨t3, mv3⟩ := keep_mid H1.out HG.out hm3 hg3
  have hmem : (w1.heap.size, (⟨s, 0, 0, 0⟩ : Th)) ∈ es ++ [(w1.heap.size, ⟨s, 0, 0, 0⟩)] := List.mem_append_right _ (List.mem_singleton.2 rfl)
  obtain ⟨⟨d0, d1, d2, d3⟩, hfz⟩ := at_thing t3 hmem
  have f1 := hfz 1
  have f2 := hfz 2
  have f3 := hfz 3
  obtain ⟨e0, e1⟩ := t3.cells
  have HT3 := Lib.hid t3
  have HM3 := Lib.hid ((MovS.ofBelow (S := TSet p r es) HB1.out).trans mv3 (fun _ _ h => h))
  have HNE : Hid (∀ e ∈ es, e.1 ≠ w1.heap.size) := Lib.hid fun e he hh => by have := H1.out.lt _ (.inr (.inr (List.mem_map.2 ⟨e, he, rfl⟩))); omega
  have HSZ : Hid (w.heap.size ≤ w1.heap.size) := Lib.hid HB1.out.size
  clear hm3 hg3 hz3 hml hlk c0 c1 t3 mv3 hfz
  go_upto_region 15 with fail
  have t4 := set_period HT3.out hmem n (now + n)
  have hmem4 := mem_updT (y := ⟨s, n, now + n, 0⟩) hmem
  have HM4 := Lib.hid ((HM3.out.set (q := ⟨w1.heap.size, 1, none⟩) (v := .int .i64 n) (.inl HSZ.out)).set (q := ⟨w1.heap.size, 2, none⟩) (v := .int .i64 (now + n)) (.inl HSZ.out))
  generalize (w3.setCell ⟨w1.heap.size, 1, none⟩ (.int .i64 n)).setCell ⟨w1.heap.size, 2, none⟩ (.int .i64 (now + n)) = w4 at t4 HM4 ⊢
  have HT4 := Lib.hid t4
  have HME4 := Lib.hid hmem4
  obtain ⟨⟨d0, d1, d2, d3⟩, hfz⟩ := at_thing t4 hmem4
  have f3 := hfz 3
  obtain ⟨e0, e1⟩ := t4.cells
  clear t4 hfz hmem hmem4 HT3 HM3 f1 f2
  first
  | go_region_law ((go_simp; refine (life_any n _).mono ?_; rintro e w5 ⟨rfl, rfl⟩; rw [HL.out]))
  | fail "law"
  all_goals rw [HW.out]
  all_goals have HT5 := Lib.hid ((set_forgot HT4.out HME4.out (now + q)).drew)
  all_goals have HM5 := Lib.hid ((HM4.out.set (q := ⟨w1.heap.size, 3, none⟩) (v := .int .i64 (now + q)) (.inl HSZ.out)).then (bl_drew (Below.refl _ _)))
  all_goals generalize (w4.setCell ⟨w1.heap.size, 3, none⟩ (.int .i64 (now + q))).drew = w5 at HT5 HM5 ⊢
  all_goals go_wp2_with fail
  all_goals
    rw [HR.out]
    refine ⟨rfl, w1.heap.size, HSZ.out, ?_, HM5.out⟩
    have h5 := HT5.out
    rw [updT_twice, updT_new _ _ HNE.out] at h5
    exact h5
set_option maxRecDepth 20000 in
set_option maxHeartbeats 400000 in
theorem keep_old (p r : Nat) (now : Int) (es : List (Nat × Th)) (s : ByteArray) (n : Int) (b : Nat) (x : Th) (w : World) (h : TAt w p r now es) (hnow : 0 ≤ now ∧ now ≤ 2147483647) (hq : namedB s = true) (hl : 1 ≤ n ∧ n ≤ 1000000) (hg : getT es s = some (b, x)) :
    Calls Try.prog 11 #[.pointer (some ⟨p, 0, none⟩), .string s, .int .i64 n] w fun e w' => e = .returned (.tuple #[.bool false, .int .i64 0]) ∧ TAt w' p r now (updT es b ⟨x.name, n, if x.period = n then x.next else now + n, now + lifeI n⟩) ∧ MovS (TSet p r es) w w' := by
  obtain ⟨c0, c1⟩ := h.cells
  have HNA := Lib.hid (named_any s w.heap.size (w.alloc (.cells #[.string s] 9)) (by go_simp))
  rw [hq] at HNA
  have HN := Lib.hid (none_no p r w c1)
  have H := Lib.hid h
  have HG := Lib.hid hg
  obtain ⟨q, hq'⟩ : ∃ q, lifeI n = q := ⟨_, rfl⟩
  have hq1 : 5 < q ∧ q ≤ 5250001 := by have := life_pos hl; omega
  have hq0 : (q == 0) = false := beq_eq_false_iff_ne.2 (by omega)
  rw [hq']
  have HL := Lib.hid hq'
  obtain ⟨k, hk⟩ : ∃ k : Int, (es.length : Int) = k := ⟨_, rfl⟩
  have HLEN := Lib.hid hk
  have hs1 : wrap64 (now + n) = now + n := wrap_in (by omega)
  have hs2 : wrap64 (now + q) = now + q := wrap_in (by omega)
  have HW : Hid (IntKind.i64.wrap (now + q) = now + q) := Lib.hid (by rw [IntKind.wrap_i64]; omega)
  obtain ⟨R, hR⟩ : ∃ R : Ending → World → Prop, R = fun e w' => e = .returned (.tuple #[.bool false, .int .i64 0]) ∧ TAt w' p r now (updT es b ⟨x.name, n, if x.period = n then x.next else now + n, now + q⟩) ∧ MovS (TSet p r es) w w' := ⟨_, rfl⟩
  rw [← hR]
  have HR := Lib.hid hR
  obtain ⟨h3, h4⟩ := hl
  obtain ⟨h5, h6⟩ := hnow
  obtain ⟨h7, h8⟩ := hq1
  have HIN : Hid (TSet p r es b) := Lib.hid (.inr (.inr (List.mem_map.2 ⟨_, (getT_mem hg).1, rfl⟩)))
  by_cases hper : x.period = n
  · have HP := Lib.hid hper
    have hn1 : (n != n) = false := by simp
    clear c0 c1 h hq hg hq' hk hR hper
    go_enter Try.func11, Try.ntmps11; go_wp2; refine wp_scope_fwd 0 rfl ?_
    go_upto_region 13 with (first | (go_at_call 30; refine HN.out.mono ?_; rintro e w' ⟨rfl, rfl⟩) | (go_at_call 31; refine HNA.out.mono ?_; rintro e w1 ⟨rfl, hb⟩; have HB1 := Lib.hid (bl_then (bl_alloc (Below.refl _ _) _) hb); clear hb; have H1 := Lib.hid (H.out.below HB1.out); have c0 := H1.out.cells.1; have c1 := H1.out.cells.2; have hlk := look_T H1.out s; rw [HG.out] at hlk; simp only [Option.map_none, Option.getD_none, Option.map_some, Option.getD_some] at hlk; have hml := mlen_T H1.out; simp only [HLEN.out] at hml) | (go_at_call 15; refine (life_any n _).mono ?_; rintro e w2 ⟨rfl, rfl⟩; rw [HL.out]))
    have hmem := (getT_mem HG.out).1
    have HM4 := Lib.hid (MovS.ofBelow (S := TSet p r es) HB1.out)
    obtain ⟨⟨d0, d1, d2, d3⟩, hfz⟩ := at_thing H1.out hmem
    rw [HP.out] at d1
    have f3 := hfz 3
    have HME4 := Lib.hid hmem
    clear hfz hmem hml hlk
    go_upto_region 15 with fail
    first
    | go_region_law ((go_simp; refine (life_any n _).mono ?_; rintro e w5 ⟨rfl, rfl⟩; rw [HL.out]))
    | fail "law"
    all_goals rw [HW.out]
    all_goals have HT5 := Lib.hid ((set_forgot H1.out HME4.out (now + q)).drew)
    all_goals have HM5 := Lib.hid ((HM4.out.set (q := ⟨b, 3, none⟩) (v := .int .i64 (now + q)) (.inr HIN.out)).then (bl_drew (Below.refl _ _)))
    all_goals generalize (w1.setCell ⟨b, 3, none⟩ (.int .i64 (now + q))).drew = w5 at HT5 HM5 ⊢
    all_goals go_wp2_with fail
    all_goals
      rw [HR.out, HP.out, if_pos rfl]
      refine ⟨rfl, ?_, HM5.out⟩
      have h5 := HT5.out
      rw [HP.out] at h5
      exact h5
  · have HP := Lib.hid hper
    have hn1 : (x.period != n) = true := by simpa [bne_iff_ne] using hper
    clear c0 c1 h hq hg hq' hk hR hper
    go_enter Try.func11, Try.ntmps11; go_wp2; refine wp_scope_fwd 0 rfl ?_
    go_upto_region 13 with (first | (go_at_call 30; refine HN.out.mono ?_; rintro e w' ⟨rfl, rfl⟩) | (go_at_call 31; refine HNA.out.mono ?_; rintro e w1 ⟨rfl, hb⟩; have HB1 := Lib.hid (bl_then (bl_alloc (Below.refl _ _) _) hb); clear hb; have H1 := Lib.hid (H.out.below HB1.out); have c0 := H1.out.cells.1; have c1 := H1.out.cells.2; have hlk := look_T H1.out s; rw [HG.out] at hlk; simp only [Option.map_none, Option.getD_none, Option.map_some, Option.getD_some] at hlk; have hml := mlen_T H1.out; simp only [HLEN.out] at hml) | (go_at_call 15; refine (life_any n _).mono ?_; rintro e w2 ⟨rfl, rfl⟩; rw [HL.out]))
    have hmem := (getT_mem HG.out).1
    have HM3 := Lib.hid (MovS.ofBelow (S := TSet p r es) HB1.out)
    obtain ⟨⟨d0, d1, d2, d3⟩, hfz⟩ := at_thing H1.out hmem
    have f1 := hfz 1
    have f2 := hfz 2
    have f3 := hfz 3
    clear hfz hml hlk
    go_upto_region 15 with fail
    have t4 := set_period H1.out hmem n (now + n)
    have hmem4 := mem_updT (y := ⟨x.name, n, now + n, x.forgot⟩) hmem
    have HM4 := Lib.hid ((HM3.out.set (q := ⟨b, 1, none⟩) (v := .int .i64 n) (.inr HIN.out)).set (q := ⟨b, 2, none⟩) (v := .int .i64 (now + n)) (.inr HIN.out))
    generalize (w1.setCell ⟨b, 1, none⟩ (.int .i64 n)).setCell ⟨b, 2, none⟩ (.int .i64 (now + n)) = w4 at t4 HM4 ⊢
    have HT4 := Lib.hid t4
    have HME4 := Lib.hid hmem4
    obtain ⟨⟨d0, d1, d2, d3⟩, hfz⟩ := at_thing t4 hmem4
    have f3 := hfz 3
    obtain ⟨e0, e1⟩ := t4.cells
    clear t4 hfz hmem hmem4 HM3 f1 f2
    first
    | go_region_law ((go_simp; refine (life_any n _).mono ?_; rintro e w5 ⟨rfl, rfl⟩; rw [HL.out]))
    | fail "law"
    all_goals rw [HW.out]
    all_goals have HT5 := Lib.hid ((set_forgot HT4.out HME4.out (now + q)).drew)
    all_goals have HM5 := Lib.hid ((HM4.out.set (q := ⟨b, 3, none⟩) (v := .int .i64 (now + q)) (.inr HIN.out)).then (bl_drew (Below.refl _ _)))
    all_goals generalize (w4.setCell ⟨b, 3, none⟩ (.int .i64 (now + q))).drew = w5 at HT5 HM5 ⊢
    all_goals go_wp2_with fail
    all_goals
      rw [HR.out, if_neg HP.out]
      refine ⟨rfl, ?_, HM5.out⟩
      have h5 := HT5.out
      rw [updT_twice] at h5
      exact h5
end Go.Proofs.Ytojeombljhmkaaa
