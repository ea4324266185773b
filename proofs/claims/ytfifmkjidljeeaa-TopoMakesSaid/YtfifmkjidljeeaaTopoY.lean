/- Topo: told's walk. -/
import Derived.Test.YtfifmkjidljeeaaTopoX
namespace Go.Proofs.Ytfifmkjidljeeaa
open Go.RowKit Go.Shelf
set_option linter.unusedVariables false
set_option linter.unusedSimpArgs false
attribute [local go_sem] Oper.semAt_some
theorem neq_tm (a b c d : Int) (w : World) : (binOp .neq 61 (.agg #[.int .i64 a, .int .i64 b]) (.agg #[.int .i64 c, .int .i64 d])).run Try.prog w = .ok (.bool (!(a == c && b == d))) w := by
  simp [go_sem]
  by_cases h1 : a = c
  · by_cases h2 : b = d <;> simp [h1, h2]
  · simp [h1]
/-- How many links lead out of the first k nodes. -/
def sumO (N : Nat) (ls : List Lk) (k : Nat) : Nat := ((List.range k).map fun (j : Nat) => (outL N ls (j : Int)).length).sum
theorem sumO_succ (N : Nat) (ls : List Lk) (k : Nat) : sumO N ls (k + 1) = sumO N ls k + (outL N ls (k : Int)).length := by
  unfold sumO
  rw [List.range_succ, List.map_append, List.sum_append]
  simp
theorem sumO_le (N : Nat) (ls : List Lk) : ∀ k, sumO N ls k ≤ N * k
  | 0 => by simp [sumO]
  | k + 1 => by
    rw [sumO_succ, Nat.mul_add]
    have := sumO_le N ls k
    have := outL_len ls (k : Int) N
    omega
/-- What holds when links out of the first k nodes have been gone over. -/
def ToldI (q bw br N : Nat) (ls : List Lk) (W0 : World) (kk : Nat) (a : Act) (W : World) : Prop :=
  a.tmps.size = 185 ∧ a.tmps[0]? = some (.pointer (some ⟨q, 0, none⟩)) ∧ a.tmps[4]? = some (.pointer (some ⟨bw, 0, none⟩)) ∧ a.tmps[6]? = some (.pointer (some ⟨br, 0, none⟩)) ∧ ∃ (k : Nat) (ds : List Nat), a.defers = marks ds ∧ k ≤ N ∧ N - k ≤ kk ∧
    a.tmps[17]? = some (.int .i64 (sumO N ls k : Nat)) ∧ a.tmps[18]? = some (.int .i64 (k : Nat)) ∧ Below W0.heap.size W0 W ∧ ds.Nodup ∧ ∀ D ∈ ds, W0.heap.size ≤ D ∧ W.heap[D]? = some (.deferred (some []))
set_option maxRecDepth 100000 in
set_option maxHeartbeats 16000000 in
theorem told_any (q N : Nat) (v : Value) (ls : List Lk) (n : Int) (w : World) (hm : TMap w q N ls) (hs : SAt Lk.cells 8 w v ls) (hne : newErr N ls = 0) :
    Calls Try.prog 18 #[.pointer (some ⟨q, 0, none⟩), .agg #[.int .i64 N, v], .int .i64 n] w fun e w' => e = .returned (.bool true) ∧ Below w.heap.size w w' := by
  obtain ⟨A, c, rfl⟩ := hs.slice
  obtain ⟨z1, z2, z3, z4, z5⟩ := newErr_zero hne
  have hnn : N ≤ 16 := by have : (1 : Int) ≤ N ∧ (N : Int) ≤ 16 := by simpa [wi] using z1
                          omega
  have hok : ∀ l ∈ ls, okLink l N = true := fun l hl => by simpa using List.any_eq_false.1 z2 l hl
  have hbk := allBack_of hne
  have hto : ∀ l ∈ ls, (0 ≤ l.a ∧ l.a < N) ∧ 0 ≤ l.b ∧ l.b < N := by
    intro l hl
    have hok := hok l hl
    rw [right_ok] at hok
    simp only [rightB, decide_eq_true_eq] at hok
    omega
  have HM := Lib.hid hm
  have HS := Lib.hid hs
  have HOK := Lib.hid hok
  have HBK := Lib.hid hbk
  have HTO := Lib.hid hto
  have HAP := Lib.hid z4
  clear hm hs hne z1 z2 z4 z5 hok hbk hto
  refine callsIn_wide (n := 8) |>.1 ?_
  refine callsIn_of_wp_marks Try.func18 rfl trivial ?_ rfl
  simp only [Try.ntmps18, List.size_toArray, List.length_cons, List.length_nil, Nat.reduceAdd, Nat.reduceSub, Array.replicate_succ, Array.replicate_zero, List.push_toArray, List.append_toArray, List.nil_append, List.cons_append]
  refine wpIn_wide.2 ?_
  go_wp2_with fail
  have ga0 : ((w.alloc (.cells #[.int .i64 N, .slice A ls.length c] 40)).alloc (.cells #[.bool false] 4)).cell? ⟨w.heap.size, 0, none⟩ = some (.int .i64 N) := by go_simp
  have ga1 : ((w.alloc (.cells #[.int .i64 N, .slice A ls.length c] 40)).alloc (.cells #[.bool false] 4)).cell? ⟨w.heap.size, 1, none⟩ = some (.slice A ls.length c) := by go_simp
  have ga2 : ((w.alloc (.cells #[.int .i64 N, .slice A ls.length c] 40)).alloc (.cells #[.bool false] 4)).cell? ⟨w.heap.size + 1, 0, none⟩ = some (.bool false) := by go_simp
  have ga3 : ((w.alloc (.cells #[.int .i64 N, .slice A ls.length c] 40)).alloc (.cells #[.bool false] 4)).frozen? ⟨w.heap.size + 1, 0, none⟩ = false := by go_simp
  generalize hW0 : (w.alloc (.cells #[.int .i64 N, .slice A ls.length c] 40)).alloc (.cells #[.bool false] 4) = W0 at ga0 ga1 ga2 ga3 ⊢
  have hW0b : Below w.heap.size w W0 := hW0 ▸ bl_alloc (bl_alloc (Below.refl _ _) _) _
  have hW0s : W0.heap.size = w.heap.size + 2 := by rw [← hW0]; simp
  have HX : Hid (∀ X, Below W0.heap.size W0 X → (X.cell? ⟨w.heap.size, 0, none⟩ = some (.int .i64 N) ∧ X.cell? ⟨w.heap.size, 1, none⟩ = some (.slice A ls.length c)) ∧ (X.cell? ⟨w.heap.size + 1, 0, none⟩ = some (.bool false) ∧ X.frozen? ⟨w.heap.size + 1, 0, none⟩ = false) ∧ SAt Lk.cells 8 X (.slice A ls.length c) ls ∧ TMap X q N ls ∧ Below w.heap.size w X ∧ w.heap.size + 1 < X.heap.size) :=
    Lib.hid fun X hX => ⟨⟨bl_cell hX ga0, bl_cell hX ga1⟩, ⟨bl_cell hX ga2, ((bl_cells hX).2 _ _ (by omega)).trans ga3⟩, HS.out.below (bl_then hW0b hX), HM.out.below (bl_then hW0b hX), bl_then hW0b hX, by have := hX.size; omega⟩
  clear hW0 ga0 ga1 ga2 ga3 hW0b hW0s
  refine (link_u q N ls n _ (HX.out _ (Below.refl _ _)).2.2.2.1).mono ?_
  rintro e w1 ⟨rfl, hb1⟩
  have HB1 := Lib.hid hb1
  clear hb1
  have HL := Lib.hid (rfl : lkOf ls n = lkOf ls n)
  have HE := Lib.hid (rfl : erOf ls n = erOf ls n)
  obtain ⟨L, hL⟩ : ∃ L, L = lkOf ls n := ⟨_, rfl⟩
  obtain ⟨er, her⟩ : ∃ er, er = erOf ls n := ⟨_, rfl⟩
  rw [← hL, ← her]
  have HLE := Lib.hid (And.intro hL her)
  clear hL her HL HE
  unfold Lk.val
  go_wp2_with fail
  have hb1 : Below W0.heap.size W0 (w1.alloc (.cells #[.int .i64 L.a, .int .i64 L.b, .int .i64 L.c, .int .i64 L.d, .int .i64 L.e, .int .i64 L.f, .int .i64 L.g, .int .i64 L.h] 23)) := bl_alloc HB1.out _
  have hc1 : ∀ X, Below (w1.heap.size + 1) (w1.alloc (.cells #[.int .i64 L.a, .int .i64 L.b, .int .i64 L.c, .int .i64 L.d, .int .i64 L.e, .int .i64 L.f, .int .i64 L.g, .int .i64 L.h] 23)) X → LkAt X w1.heap.size 0 L := fun X hX =>
    LkAt.below (w := w1.alloc (.cells #[.int .i64 L.a, .int .i64 L.b, .int .i64 L.c, .int .i64 L.d, .int .i64 L.e, .int .i64 L.f, .int .i64 L.g, .int .i64 L.h] 23)) (by unfold LkAt; go_simp) (by simpa using hX)
  generalize hW1 : w1.alloc (.cells #[.int .i64 L.a, .int .i64 L.b, .int .i64 L.c, .int .i64 L.d, .int .i64 L.e, .int .i64 L.f, .int .i64 L.g, .int .i64 L.h] 23) = W1 at hb1 hc1 ⊢
  have hs1 : W1.heap.size = w1.heap.size + 1 := by rw [← hW1]; simp
  have HC1 : Hid (∀ X, Below W1.heap.size W1 X → LkAt X w1.heap.size 0 L) := Lib.hid fun X hX => hc1 X (by rw [← hs1]; exact hX)
  have HBW1 := Lib.hid hb1
  clear hW1 hc1 hb1 hs1 HB1
  refine (back_u q N ls n _ (HX.out _ HBW1.out).2.2.2.1 HBK.out).mono ?_
  rintro e w2 ⟨rfl, hb2⟩
  have HB2 := Lib.hid hb2
  clear hb2
  obtain ⟨bk, hbk⟩ : ∃ bk, bk = bkOf ls n := ⟨_, rfl⟩
  rw [← hbk, ← HLE.out.2]
  have HBKN := Lib.hid hbk
  clear hbk
  go_wp2_with fail
  refine (terms_u q N ls n _ (HX.out _ (bl_then HBW1.out HB2.out)).2.2.2.1 HOK.out).mono ?_
  rintro e w3 ⟨rfl, hb3⟩
  have HB3 := Lib.hid (bl_then HB2.out hb3)
  clear hb3 HB2
  obtain ⟨t1, ht1⟩ : ∃ t1, t1 = t1Of ls n := ⟨_, rfl⟩
  obtain ⟨t2, ht2⟩ : ∃ t2, t2 = t2Of ls n := ⟨_, rfl⟩
  rw [← ht1, ← ht2, ← HLE.out.2]
  have HT := Lib.hid (And.intro ht1 ht2)
  clear ht1 ht2
  go_upto_region 4 with fail
  rename_i K hK K1 hK1
  have hrest : ∀ (tmps : Array Value) (W : World), tmps.size = 185 → tmps[0]? = some (.pointer (some ⟨q, 0, none⟩)) → tmps[4]? = some (.pointer (some ⟨w.heap.size, 0, none⟩)) → tmps[6]? = some (.pointer (some ⟨w.heap.size + 1, 0, none⟩)) → Below W0.heap.size W0 W → K { tmps := tmps, defers := [] } W := by
    clear hK1
    intro tmps W ht h0 h4 h6 hb
    apply hK
    clear hK
    obtain ⟨u, rfl⟩ := lit185_of tmps ht
    have e0 : u 0 = .pointer (some ⟨q, 0, none⟩) := Option.some.inj h0
    have e4 : u 4 = .pointer (some ⟨w.heap.size, 0, none⟩) := Option.some.inj h4
    have e6 : u 6 = .pointer (some ⟨w.heap.size + 1, 0, none⟩) := Option.some.inj h6
    unfold lit185
    rw [e0, e4, e6]
    clear ht h0 h4 h6 e0 e4 e6
    have HB := Lib.hid hb
    clear hb
    go_wp2_with fail
    refine wp_loop_ghost_k (ToldI q w.heap.size (w.heap.size + 1) N ls W0) (N + 1) ⟨rfl, rfl, rfl, rfl, 0, [], rfl, by omega, by omega, rfl, rfl, HB.out, List.nodup_nil, fun D hD => by simp at hD⟩ ?_
    clear HB
    intro kk a wr hI J K2 hJ hK2
    obtain ⟨tmps, defers⟩ := a
    obtain ⟨ht, h0, h4, h6, k, ds, hdf, hk, hkk, h17, h18, hb, hnd, hds⟩ := hI
    simp only at ht h0 h4 h6 hdf h17 h18
    subst hdf
    obtain ⟨u, rfl⟩ := lit185_of tmps ht
    have e0 : u 0 = .pointer (some ⟨q, 0, none⟩) := Option.some.inj h0
    have e4 : u 4 = .pointer (some ⟨w.heap.size, 0, none⟩) := Option.some.inj h4
    have e6 : u 6 = .pointer (some ⟨w.heap.size + 1, 0, none⟩) := Option.some.inj h6
    have e17 : u 17 = .int .i64 (sumO N ls k : Nat) := Option.some.inj h17
    have e18 : u 18 = .int .i64 (k : Nat) := Option.some.inj h18
    unfold lit185
    rw [e0, e4, e6, e17, e18]
    clear ht h0 h4 h6 h17 h18 e0 e4 e6 e17 e18
    have HB := Lib.hid hb
    have HDS := Lib.hid (And.intro hnd hds)
    obtain ⟨⟨x0, x1⟩, ⟨x2, x3⟩, x4, x5, x6, x7⟩ := HX.out wr hb
    have hsl := sumO_le N ls k
    have hsk : sumO N ls k ≤ 256 := Nat.le_trans hsl (by have := Nat.mul_le_mul hnn (Nat.le_trans hk hnn); omega)
    clear hb hnd hds hsl
    by_cases hlt : k < N
    · have hltz : (k : Int) < (N : Int) := by omega
      have hro := rout_any N _ ls (k : Int) wr x4 (by omega)
      have hss := sumO_succ N ls k
      have HX5 := Lib.hid x5
      have HX6 := Lib.hid x6
      clear x4 x5 x6
      go_wp2_with fail
      refine hro.mono ?_
      clear hro
      rintro e w6 ⟨⟨vo, rfl, hso⟩, hb6⟩
      obtain ⟨Ao, co, rfl⟩ := hso.slice
      have HSO := Lib.hid hso
      have HB6 := Lib.hid hb6
      have HM9 := Lib.hid (HX5.out.below hb6)
      clear hso hb6
      go_wp2_with fail
      have hol : (outL N ls (k : Int)).length ≤ N := outL_len ls (k : Int) N
      generalize hout : outL N ls (k : Int) = out at *
      have HOUT := Lib.hid hout
      have HSS := Lib.hid hss
      clear hss
      refine (out_any _ (k : Int) _).mono ?_
      rintro e w8 ⟨rfl, hw8⟩
      have hb8 : Below w6.heap.size w6 w8 := by rw [hw8]; exact bl_alloc (bl_alloc (bl_alloc (bl_alloc (Below.refl _ _) _) _) _) _
      have hs8 : w8.heap.size = w6.heap.size + 4 := by rw [hw8]; simp
      have k0 : w8.cell? ⟨w6.heap.size, 0, none⟩ = some (.slice Ao out.length co) := by subst hw8; go_simp
      have k1 : w8.cell? ⟨w6.heap.size + 1, 0, none⟩ = some (.int .i64 0) := by subst hw8; go_simp
      have k1f : w8.frozen? ⟨w6.heap.size + 1, 0, none⟩ = false := by subst hw8; go_simp
      have k2 : w8.cell? ⟨w6.heap.size + 2, 0, none⟩ = some (.pointer (some ⟨q, 0, none⟩)) := by subst hw8; go_simp
      have k3 : w8.cell? ⟨w6.heap.size + 3, 0, none⟩ = some (.int .i64 (k : Nat)) := by subst hw8; go_simp
      have hM8 := HM9.out.below hb8
      have hst := out_stops 7 (by omega) q (w6.heap.size + 2) (w6.heap.size + 3) N ls (k : Int) w8 hM8 k2 k3 HAP.out (fun l hl => (HTO.out l hl).2) (by omega)
      rw [HOUT.out] at hst
      have HST := Lib.hid hst
      have HB8 := Lib.hid hb8
      have hen := fun (w : World) (f : Fn) rs cb => run_eql_func_nil (P := Try.prog) w 50 f rs cb Try.underlying50
      have hib : w6.heap.size + 1 ≤ w8.heap.size := by omega
      have hib2 : w6.heap.size + 1 < w8.heap.size := by omega
      have HFX : Hid (∀ X, Below (w6.heap.size + 1) w8 X → Below w6.heap.size w6 X ∧ X.cell? ⟨w6.heap.size, 0, none⟩ = some (.slice Ao out.length co)) := Lib.hid fun X hX => ⟨hb8.trans (hX.mono (by omega)), (hX.cell (p := ⟨w6.heap.size, 0, none⟩) (by simp)).trans k0⟩
      clear hw8 hst hb8 hM8 hout k0 k2 k3
      simp only [World.size_alloc]
      go_wp2_with fail
      refine (wpIn_wide (n := 8)).1 ?_
      refine wpIn_rangeFunc_ownF rfl (by omega) (gf := 36) (lb := #[.pointer (some ⟨w6.heap.size + 2, 0, none⟩), .pointer (some ⟨w6.heap.size + 3, 0, none⟩)]) rfl trivial enc_out1 HST.out keepsC_t keepsC_b (Below.refl _ _) (fun _ => rfl)
        (CopI (w6.heap.size + 1) w8 out 1000) (CopX (w6.heap.size + 1) w8 out 1000) (copI_own hib) (copX_own hib) ⟨⟨Below.refl _ _, k1, k1f⟩, List.nil_prefix, by simp⟩ ?a1 ?assign ?body ?done ?stop
      case assign =>
        intro l x W K hK
        gi_wp2
        exact hK
      case body =>
        rintro l pre x W ⟨⟨hB, hc, hf⟩, hp, hlt2⟩ hN
        obtain ⟨hB6, hx0⟩ := HFX.out W hB
        have hgy : out[pre.length]? = some out[pre.length] := List.getElem?_eq_getElem hN
        generalize out[pre.length] = y at hgy
        have hNz : (pre.length : Int) < (out.length : Int) := by omega
        have hi1 : (pre.length : Int) + 1 < 9223372036854775807 := by omega
        rcases HSO.out.below hB6 with ⟨h1, h2⟩ | ⟨b, o, c', h1, _, hoc, hrow⟩
        · subst h2; simp at hN
        · simp only [Value.slice.injEq] at h1
          obtain ⟨rfl, -, rfl⟩ := h1
          have hcy : W.cell? ⟨b, o + pre.length, none⟩ = some (.int .i64 (y : Nat)) := by
            have := hrow pre.length y hgy 0 _ rfl
            simpa using this
          obtain ⟨⟨t4c, t4d⟩, ⟨t6c, t6f⟩, -, -, -, -⟩ := HX.out W (HB.out.trans ((HB6.out.trans (hB6.mono HB6.out.size)).mono HB.out.size))
          have hws : w.heap.size + 1 < w6.heap.size := by have := HB6.out.size; omega
          have hws2 : w.heap.size < w6.heap.size := by omega
          have hge : decide (out.length ≤ pre.length) = false := by simp; omega
          have hge2 : ¬ out.length ≤ pre.length := by omega
          have HGY := Lib.hid hgy
          have HP := Lib.hid hp
          have HLT := Lib.hid hlt2
          have HBB := Lib.hid hB
          obtain ⟨F', hF'⟩ : ∃ F' : Fence, F'.inRound l = Fence.wide.inRound l := ⟨_, rfl⟩
          rw [← hF']
          clear hrow hgy hp hlt2 hB hF' hen hB6 hs8
          by_cases hxy : x = y
          · subst hxy
            have hxb : ((x : Int) != (x : Int)) = false := by simp
            gi_wp2
            refine ⟨KeepsOthers.setCell _ _ _, keepsC_set (keepsC_refl _ _) hib2 _, ⟨HBB.out.setCell (p := ⟨w6.heap.size + 1, 0, none⟩) (Nat.le_refl _) _, ?_, by rw [World.frozen?_setCell]; exact hf⟩, prefix_snoc HP.out HGY.out, ?_⟩
            · rw [World.cell?_setCell_same' _ _ _ (by rw [hc]; rfl)]
              simp
            · simp only [List.length_append, List.length_cons, List.length_nil]
              omega
          · have hxn : ((x : Int) != (y : Int)) = true := by simp; omega
            gi_wp2
            refine ⟨KeepsOthers.setCell _ _ _, Or.inl ⟨rfl, fun h => hxy ?_⟩⟩
            have h1 := prefix_get h
            rw [HGY.out] at h1
            cases h1
            rfl
      case stop =>
        rintro D c pre W hD hSp hIx hK
        rcases hIx with ⟨rfl, hno⟩ | ⟨rfl, hB, hc, hf, hp, hlt2⟩
        · exact absurd hSp hno
        · have := hp.length_le
          omega
      case done =>
        rintro D xs W hD hxs ⟨⟨hB, hc, hf⟩, hp, hlt2⟩ hK
        rw [hxs] at hc
        clear hxs hp hlt2
        obtain ⟨hB6, hx0⟩ := HFX.out W hB
        have hbW : Below wr.heap.size wr W := bl_then HB6.out hB6
        have HBW := Lib.hid hbW
        have HKD := Lib.hid hK
        have hBs := hB.size
        have hwD : wr.heap.size ≤ D := by have h2 := HB6.out.size; have h3 := HB8.out.size; omega
        clear hbW hK hB hB6 hen
        go_wp2_with fail
        have hlt3 : ∀ E ∈ ds, E < wr.heap.size := fun E hE => (Array.getElem?_eq_some_iff.1 (HDS.out.2 E hE).2).1
        have hw0 : W0.heap.size ≤ D := Nat.le_trans HB.out.size hwD
        refine Handed.intro (N - (k + 1)) (by omega) (hJ _ _ _ ⟨rfl, rfl, rfl, rfl, k + 1, D :: ds, rfl, by omega, Nat.le_refl _, ?_, ?_, HB.out.trans (HBW.out.mono HB.out.size), ?_, ?_⟩)
        · exact congrArg (fun z => some (Value.int .i64 z)) (by rw [HSS.out]; omega)
        · exact congrArg (fun z => some (Value.int .i64 z)) (by omega)
        · exact List.nodup_cons.2 ⟨fun hE => by have := hlt3 D hE; omega, HDS.out.1⟩
        · intro E hE
          rcases List.mem_cons.1 hE with rfl | hE
          · exact ⟨hw0, HKD.out⟩
          · exact ⟨(HDS.out.2 E hE).1, (HBW.out.block E (hlt3 E hE)).trans (HDS.out.2 E hE).2⟩
    · obtain rfl : k = N := by omega
      have hsum := out_sum (nodes := k) HAP.out (fun l hl => (HTO.out l hl).1) (fun l hl => (HTO.out l hl).2)
      have hso : sumO k ls k = ls.length := hsum
      rw [hso]
      have hlz : (((ls.length : Nat) : Int) == ((ls.length : Nat) : Int)) = true := by simp
      have hkz : ¬ ((k : Nat) : Int) < ((k : Nat) : Int) := by omega
      have HX6 := Lib.hid x6
      have X2 := Lib.hid x2
      clear hsum hso x4 x5 x6 hlt
      go_wp2_with fail
      have hc2 : (wr.setCell ⟨w.heap.size + 1, 0, none⟩ (.bool true)).cell? ⟨w.heap.size + 1, 0, none⟩ = some (.bool true) := World.cell?_setCell_same' _ _ _ (by rw [X2.out]; rfl)
      refine leave_many Try.results18 rfl ds _ HDS.out.1 (fun E hE => ⟨?_, (KeepsOthers.setCell _ _ _).same E _ (HDS.out.2 E hE).2 rfl⟩) hc2 (bl_set HX6.out (by simp) _)
      have := (HDS.out.2 E hE).1
      have := (HX.out W0 (Below.refl _ _)).2.2.2.2.1.size
      omega
  clear hK
  have hb3 : Below W0.heap.size W0 (w3.alloc (.cells #[.int .i64 t1, .int .i64 t2] 61)) := bl_then HBW1.out (bl_alloc HB3.out _)
  have hl3 : LkAt (w3.alloc (.cells #[.int .i64 t1, .int .i64 t2] 61)) w1.heap.size 0 L := HC1.out _ (bl_alloc HB3.out _)
  have hd0 : (w3.alloc (.cells #[.int .i64 t1, .int .i64 t2] 61)).cell? ⟨w3.heap.size, 0, none⟩ = some (.int .i64 t1) := by go_simp
  have hd1 : (w3.alloc (.cells #[.int .i64 t1, .int .i64 t2] 61)).cell? ⟨w3.heap.size, 1, none⟩ = some (.int .i64 t2) := by go_simp
  generalize hW3 : w3.alloc (.cells #[.int .i64 t1, .int .i64 t2] 61) = W3 at hb3 hl3 hd0 hd1 ⊢
  clear hW3
  obtain ⟨l0, l1, l2, l3, l4, l5, l6, l7⟩ := hl3
  simp only [Nat.zero_add] at l0 l1 l2 l3 l4 l5 l6 l7
  obtain ⟨⟨x0, x1⟩, -, x4, x5, -, -⟩ := HX.out W3 hb3
  by_cases hr : inR ls n
  · have hLE := HLE.out
    have hBN := HBKN.out
    have hTT := HT.out
    obtain ⟨m, rfl⟩ : ∃ m : Nat, n = (m : Int) := ⟨n.toNat, by have := hr.1; omega⟩
    have hgl := lkOf_get hr
    rw [show ((m : Nat) : Int).toNat = m by omega, ← hLE.1] at hgl
    have hmz : (m : Int) < (ls.length : Int) := hr.2
    have hmn : m < ls.length := by omega
    have hok : okLink L N = true := HOK.out _ (List.mem_of_getElem? hgl)
    rw [right_ok] at hok
    simp only [rightB, decide_eq_true_eq] at hok
    obtain rfl : er = 0 := by rw [hLE.2]; unfold erOf; rw [if_pos hr]
    have hbk : bk = posI ls L.b L.a := by rw [hBN]; unfold bkOf; rw [if_pos hr, ← hLE.1]
    have ht1 : t1 = L.f := by rw [hTT.1]; unfold t1Of; rw [if_pos hr, ← hLE.1]
    have ht2 : t2 = upI L.f L.c + 1 + L.e := by rw [hTT.2]; unfold t2Of; rw [if_pos hr, ← hLE.1]
    have hrl := fun w => rlink_any L.c L.f L.e w (by omega) (by omega) (by omega) (by omega) (by omega) (by omega)
    unfold termsV at hrl
    subst ht1
    subst ht2
    have hu := upI_le (n := L.f) (d := L.c) (by omega) (by omega) (by omega)
    generalize upI L.f L.c + 1 + L.e = t2 at *
    have hba := back_again HAP.out HBK.out hr
    rw [← hBN] at hba
    have X4 := Lib.hid x4
    have HR := Lib.hid hr
    have HGL := Lib.hid hgl
    have HBA := Lib.hid hba
    have HBKP := Lib.hid hbk
    have hBB := Lib.hid hb3
    rcases x4 with ⟨h1, h2⟩ | ⟨b, o, c', h1, _, _, hrow⟩
    · subst h2; simp at hmn
    · simp only [Value.slice.injEq] at h1
      obtain ⟨rfl, -, rfl⟩ := h1
      obtain ⟨c0, c1, c2, c3, c4, c5, c6, c7⟩ := LkAt.ofRow hrow hgl
      have HSX : Hid (∀ X, Below W3.heap.size W3 X → (fun w' => w'.cell? ⟨w.heap.size, 1, none⟩ = some (.slice (some ⟨b, o, none⟩) ls.length c) ∧ w'.cell? ⟨b, o + m * 8 + 2, none⟩ = some (.int .i64 L.c) ∧ w'.cell? ⟨b, o + m * 8 + 4, none⟩ = some (.int .i64 L.e) ∧ w'.cell? ⟨b, o + m * 8 + 5, none⟩ = some (.int .i64 L.f)) X) := Lib.hid fun X hX => ⟨bl_cell hX x1, bl_cell hX c2, bl_cell hX c4, bl_cell hX c5⟩
      clear hr hgl hba hb3 hrow hLE hBN hTT hok hbk x5 hu
      go_upto_region 7 with fail
      rename_i Kr hKr
      have hrest2 : ∀ (tmps : Array Value) (W : World) (p13 : Nat), tmps.size = 185 → tmps[0]? = some (.pointer (some ⟨q, 0, none⟩)) → tmps[2]? = some (.int .i64 (m : Nat)) → tmps[4]? = some (.pointer (some ⟨w.heap.size, 0, none⟩)) → tmps[6]? = some (.pointer (some ⟨w.heap.size + 1, 0, none⟩)) →
          tmps[7]? = some (.pointer (some ⟨w1.heap.size, 0, none⟩)) → tmps[8]? = some (.int .i64 0) → tmps[9]? = some (.int .i64 bk) → tmps[10]? = some (.int .i64 0) → tmps[11]? = some (.pointer (some ⟨w3.heap.size, 0, none⟩)) → tmps[12]? = some (.int .i64 0) → tmps[13]? = some (.pointer (some ⟨p13, 0, none⟩)) →
          Below W3.heap.size W3 W → W.cell? ⟨p13, 0, none⟩ = some (.int .i64 L.f) → W.cell? ⟨p13, 1, none⟩ = some (.int .i64 t2) → Kr { tmps := tmps, defers := [] } W := by
        intro tmps W p13 ht h0 h2 h4 h6 h7 h8 h9 h10 h11 h12 h13 hbW hp0 hp1
        apply hKr
        clear hKr
        obtain ⟨u, rfl⟩ := lit185_of tmps ht
        have e0 : u 0 = .pointer (some ⟨q, 0, none⟩) := Option.some.inj h0
        have e2 : u 2 = .int .i64 (m : Nat) := Option.some.inj h2
        have e4 : u 4 = .pointer (some ⟨w.heap.size, 0, none⟩) := Option.some.inj h4
        have e6 : u 6 = .pointer (some ⟨w.heap.size + 1, 0, none⟩) := Option.some.inj h6
        have e7 : u 7 = .pointer (some ⟨w1.heap.size, 0, none⟩) := Option.some.inj h7
        have e8 : u 8 = .int .i64 0 := Option.some.inj h8
        have e9 : u 9 = .int .i64 bk := Option.some.inj h9
        have e10 : u 10 = .int .i64 0 := Option.some.inj h10
        have e11 : u 11 = .pointer (some ⟨w3.heap.size, 0, none⟩) := Option.some.inj h11
        have e12 : u 12 = .int .i64 0 := Option.some.inj h12
        have e13 : u 13 = .pointer (some ⟨p13, 0, none⟩) := Option.some.inj h13
        unfold lit185
        rw [e0, e2, e4, e6, e7, e8, e9, e10, e11, e12, e13]
        clear ht h0 h2 h4 h6 h7 h8 h9 h10 h11 h12 h13 e0 e2 e4 e6 e7 e8 e9 e10 e11 e12 e13
        have HSY : Hid (∀ X, Below W.heap.size W X → (fun w' => (w'.cell? ⟨w.heap.size, 0, none⟩ = some (.int .i64 N) ∧ w'.cell? ⟨w.heap.size, 1, none⟩ = some (.slice (some ⟨b, o, none⟩) ls.length c)) ∧
            (w'.cell? ⟨b, o + m * 8, none⟩ = some (.int .i64 L.a) ∧ w'.cell? ⟨b, o + m * 8 + 1, none⟩ = some (.int .i64 L.b) ∧ w'.cell? ⟨b, o + m * 8 + 2, none⟩ = some (.int .i64 L.c) ∧ w'.cell? ⟨b, o + m * 8 + 3, none⟩ = some (.int .i64 L.d) ∧ w'.cell? ⟨b, o + m * 8 + 4, none⟩ = some (.int .i64 L.e) ∧ w'.cell? ⟨b, o + m * 8 + 5, none⟩ = some (.int .i64 L.f) ∧ w'.cell? ⟨b, o + m * 8 + 6, none⟩ = some (.int .i64 L.g) ∧ w'.cell? ⟨b, o + m * 8 + 7, none⟩ = some (.int .i64 L.h)) ∧
            (w'.cell? ⟨w1.heap.size, 0, none⟩ = some (.int .i64 L.a) ∧ w'.cell? ⟨w1.heap.size, 1, none⟩ = some (.int .i64 L.b) ∧ w'.cell? ⟨w1.heap.size, 2, none⟩ = some (.int .i64 L.c) ∧ w'.cell? ⟨w1.heap.size, 3, none⟩ = some (.int .i64 L.d) ∧ w'.cell? ⟨w1.heap.size, 4, none⟩ = some (.int .i64 L.e) ∧ w'.cell? ⟨w1.heap.size, 5, none⟩ = some (.int .i64 L.f) ∧ w'.cell? ⟨w1.heap.size, 6, none⟩ = some (.int .i64 L.g) ∧ w'.cell? ⟨w1.heap.size, 7, none⟩ = some (.int .i64 L.h)) ∧
            (w'.cell? ⟨w3.heap.size, 0, none⟩ = some (.int .i64 L.f) ∧ w'.cell? ⟨w3.heap.size, 1, none⟩ = some (.int .i64 t2)) ∧ w'.cell? ⟨p13, 0, none⟩ = some (.int .i64 L.f) ∧ w'.cell? ⟨p13, 1, none⟩ = some (.int .i64 t2)) X) := Lib.hid fun X hX => by
          have hX3 := bl_then hbW hX
          exact ⟨⟨bl_cell hX3 x0, bl_cell hX3 x1⟩, ⟨bl_cell hX3 c0, bl_cell hX3 c1, bl_cell hX3 c2, bl_cell hX3 c3, bl_cell hX3 c4, bl_cell hX3 c5, bl_cell hX3 c6, bl_cell hX3 c7⟩, ⟨bl_cell hX3 l0, bl_cell hX3 l1, bl_cell hX3 l2, bl_cell hX3 l3, bl_cell hX3 l4, bl_cell hX3 l5, bl_cell hX3 l6, bl_cell hX3 l7⟩, ⟨bl_cell hX3 hd0, bl_cell hX3 hd1⟩, bl_cell hX hp0, bl_cell hX hp1⟩
        have hsW := HSY.out W (Below.refl _ _)
        dsimp only at hsW
        obtain ⟨⟨y0, y1⟩, ⟨k0, k1, k2, k3, k4, k5, k6, k7⟩, ⟨j0, j1, j2, j3, j4, j5, j6, j7⟩, ⟨i0, i1⟩, r0, r1⟩ := hsW
        have HBW3 := Lib.hid hbW
        have hbt := fun X hX => rbtw_any N _ ls L.b L.a X (X4.out.below (bl_then hbW (show Below W.heap.size W X from hX)))
        rw [← HBKP.out] at hbt
        have hnq := fun w => neq_lk L L w
        have hnt := fun w => neq_tm L.f t2 L.f t2 w
        rw [sameLk_self] at hnq
        simp only [beq_self_eq_true, Bool.and_self, Bool.not_true] at hnq hnt
        unfold Lk.val at hnq
        have hbb : (bk != bk) = false := by simp
        clear x0 x1 c0 c1 c2 c3 c4 c5 c6 c7 l0 l1 l2 l3 l4 l5 l6 l7 hd0 hd1 hp0 hp1 hbW hrl HSX
        go_upto_region 8 with fail
        refine wp_region_noPanic ?_
        go_region_held3 (fun w' => (w'.cell? ⟨w.heap.size, 0, none⟩ = some (.int .i64 N) ∧ w'.cell? ⟨w.heap.size, 1, none⟩ = some (.slice (some ⟨b, o, none⟩) ls.length c)) ∧
            (w'.cell? ⟨b, o + m * 8, none⟩ = some (.int .i64 L.a) ∧ w'.cell? ⟨b, o + m * 8 + 1, none⟩ = some (.int .i64 L.b) ∧ w'.cell? ⟨b, o + m * 8 + 2, none⟩ = some (.int .i64 L.c) ∧ w'.cell? ⟨b, o + m * 8 + 3, none⟩ = some (.int .i64 L.d) ∧ w'.cell? ⟨b, o + m * 8 + 4, none⟩ = some (.int .i64 L.e) ∧ w'.cell? ⟨b, o + m * 8 + 5, none⟩ = some (.int .i64 L.f) ∧ w'.cell? ⟨b, o + m * 8 + 6, none⟩ = some (.int .i64 L.g) ∧ w'.cell? ⟨b, o + m * 8 + 7, none⟩ = some (.int .i64 L.h)) ∧
            (w'.cell? ⟨w1.heap.size, 0, none⟩ = some (.int .i64 L.a) ∧ w'.cell? ⟨w1.heap.size, 1, none⟩ = some (.int .i64 L.b) ∧ w'.cell? ⟨w1.heap.size, 2, none⟩ = some (.int .i64 L.c) ∧ w'.cell? ⟨w1.heap.size, 3, none⟩ = some (.int .i64 L.d) ∧ w'.cell? ⟨w1.heap.size, 4, none⟩ = some (.int .i64 L.e) ∧ w'.cell? ⟨w1.heap.size, 5, none⟩ = some (.int .i64 L.f) ∧ w'.cell? ⟨w1.heap.size, 6, none⟩ = some (.int .i64 L.g) ∧ w'.cell? ⟨w1.heap.size, 7, none⟩ = some (.int .i64 L.h)) ∧
            (w'.cell? ⟨w3.heap.size, 0, none⟩ = some (.int .i64 L.f) ∧ w'.cell? ⟨w3.heap.size, 1, none⟩ = some (.int .i64 t2)) ∧ w'.cell? ⟨p13, 0, none⟩ = some (.int .i64 L.f) ∧ w'.cell? ⟨p13, 1, none⟩ = some (.int .i64 t2))
          (exact HSY.out _ (by repeat (first | exact Below.refl _ _ | refine bl_drew ?_ | refine bl_drewN ?_ _ | refine bl_alloc ?_ _ | (refine bl_then ?_ hb; clear hb))))
          ((go_at_call 17; refine (hbt _ (by repeat (first | exact Below.refl _ _ | refine bl_drew ?_ | refine bl_drewN ?_ _))).mono ?_; rintro e w' ⟨rfl, hb⟩))
        all_goals
          refine NoPanic.normal ?_
          have hbF : Below W3.heap.size W3 w' := bl_then HBW3.out (by repeat (first | exact Below.refl _ _ | refine bl_drew ?_ | refine bl_drewN ?_ _ | (refine bl_then ?_ hb; clear hb)))
          have HBF := Lib.hid hbF
          have hbk2 := back_u q N ls bk w' (HX.out w' (bl_then hBB.out hbF)).2.2.2.1 HBK.out
          rw [HBA.out.2, show erOf ls bk = 0 from by unfold erOf; rw [if_pos HBA.out.1]] at hbk2
          have hmb : ((m : Int) != (m : Int)) = false := by simp
          clear hbF hb hbt hnq hnt
          go_wp2_with (go_at_call 23; refine hbk2.mono ?_; rintro e w9 ⟨rfl, hb9⟩)
          exact hrest _ _ rfl rfl rfl rfl (bl_then hBB.out (bl_then HBF.out hb9))
      clear hKr
      refine wp_region_noPanic ?_
      first
      | go_region_held3 (fun w' => w'.cell? ⟨w.heap.size, 1, none⟩ = some (.slice (some ⟨b, o, none⟩) ls.length c) ∧ w'.cell? ⟨b, o + m * 8 + 2, none⟩ = some (.int .i64 L.c) ∧ w'.cell? ⟨b, o + m * 8 + 4, none⟩ = some (.int .i64 L.e) ∧ w'.cell? ⟨b, o + m * 8 + 5, none⟩ = some (.int .i64 L.f))
          (exact HSX.out _ (by repeat (first | exact Below.refl _ _ | refine bl_drew ?_ | refine bl_drewN ?_ _ | refine bl_alloc ?_ _ | refine bl_set ?_ (by simp) _ | (refine bl_then ?_ hb; clear hb))))
          ((go_at_call 34; refine (hrl _).mono ?_; rintro e w' ⟨rfl, hb⟩; have hz := hb.size; simp only [World.size_alloc, World.size_drew] at hz; try (have f0 := bl_cell hb (b := W3.heap.size) (o := 0) (v := .int .i64 0) (by go_simp); have f1 := bl_cell hb (b := W3.heap.size) (o := 1) (v := .int .i64 0) (by go_simp); have g0 := ((bl_cells hb).2 W3.heap.size 0 (by simp)).trans (show _ = false by go_simp); have g1 := ((bl_cells hb).2 W3.heap.size 1 (by simp)).trans (show _ = false by go_simp); have hlz : W3.heap.size < w'.heap.size := by omega)))
      | fail "held3"
      · refine NoPanic.normal ?_
        exact hrest2 _ _ _ rfl rfl rfl rfl rfl rfl rfl rfl rfl rfl rfl rfl (by repeat (first | exact Below.refl _ _ | refine bl_drew ?_ | refine bl_drewN ?_ _ | refine bl_alloc ?_ _ | refine bl_set ?_ (by simp) _ | (refine bl_then ?_ hb; clear hb))) (by go_simp) (by go_simp)
      · refine NoPanic.normal ?_
        exact hrest2 _ _ _ rfl rfl rfl rfl rfl rfl rfl rfl rfl rfl rfl rfl (by repeat (first | exact Below.refl _ _ | refine bl_drew ?_ | refine bl_drewN ?_ _ | refine bl_alloc ?_ _ | refine bl_set ?_ (by simp) _ | (refine bl_then ?_ hb; clear hb))) (by go_simp) (by go_simp)
  · have hLE := HLE.out
    have hBN := HBKN.out
    have hTT := HT.out
    unfold lkOf erOf at hLE
    unfold bkOf at hBN
    unfold t1Of t2Of at hTT
    rw [if_neg hr] at hLE hBN hTT
    rw [if_neg hr] at hLE hTT
    obtain ⟨rfl, rfl⟩ := hLE
    obtain rfl := hBN
    obtain ⟨rfl, rfl⟩ := hTT
    have hBB := Lib.hid hb3
    clear x5 x4 hb3
    unfold Lk0 at l0 l1 l2 l3 l4 l5 l6 l7
    simp only at l0 l1 l2 l3 l4 l5 l6 l7
    by_cases hn0 : n < 0
    · go_wp2_with fail
      exact hrest _ _ rfl rfl rfl rfl hBB.out
    · have hn1 : (ls.length : Int) ≤ n := by unfold inR at hr; omega
      go_wp2_with fail
      exact hrest _ _ rfl rfl rfl rfl hBB.out
end Go.Proofs.Ytfifmkjidljeeaa
