/- Soft: SoftCopies. -/
import Derived.Test.YtojeombljhmkaaaSoftBR
import Derived.Deep.CutBlock
namespace Go.Proofs.Ytojeombljhmkaaa
open Go.RowKit Go.Shelf Go.Sort
set_option linter.unusedVariables false
set_option linter.unusedSimpArgs false
attribute [local go_sem] Oper.semAt_some
set_option maxRecDepth 100000 in
set_option maxHeartbeats 2000000 in
theorem copies_no (va vb : Value) (ahead behind : List Ac) (many : Int) (w : World) (h1 : SAt Ac.cells 3 w va ahead) (h2 : SAt Ac.cells 3 w vb behind) (hln : (ahead.length + behind.length) * 32 ≤ 140737488355328) (hg : ¬ (fewB (ahead ++ behind) 50 = true ∧ 1 ≤ many ∧ many ≤ 50)) :
    Calls Try.prog 7 #[va, vb, .int .i64 many] w fun e w' => e = .returned (.bool true) ∧ Below w.heap.size w w' := by
  obtain ⟨A, c, rfl⟩ := h1.slice
  obtain ⟨B, d, rfl⟩ := h2.slice
  obtain ⟨W0, hW0⟩ : ∃ W0, W0 = (w.alloc (.cells #[.int .i64 many] 3)).alloc (.cells #[.bool false] 4) := ⟨_, rfl⟩
  have hbw : Below w.heap.size w W0 := hW0 ▸ bl_alloc (bl_alloc (Below.refl _ _) _) _
  have ga0 : W0.cell? ⟨w.heap.size, 0, none⟩ = some (.int .i64 many) := by rw [hW0]; go_simp
  have ga1 : W0.cell? ⟨w.heap.size + 1, 0, none⟩ = some (.bool false) := by rw [hW0]; go_simp
  have ga2 : W0.frozen? ⟨w.heap.size + 1, 0, none⟩ = false := by rw [hW0]; go_simp
  have hz0 : W0.heap.size = w.heap.size + 2 := by rw [hW0]; simp
  have HX : Hid (∀ X, Below W0.heap.size W0 X → X.cell? ⟨w.heap.size, 0, none⟩ = some (.int .i64 many) ∧ X.cell? ⟨w.heap.size + 1, 0, none⟩ = some (.bool false) ∧ X.frozen? ⟨w.heap.size + 1, 0, none⟩ = false) :=
    Lib.hid fun X hX => ⟨bl_cell hX ga0, bl_cell hX ga1, ((bl_cells hX).2 _ _ (by omega)).trans ga2⟩
  have HBW := Lib.hid hbw
  have HW0 := Lib.hid hW0
  have HS1 := Lib.hid (h1.below hbw)
  have HS2 := Lib.hid (h2.below hbw)
  have HLN := Lib.hid hln
  clear h1 h2 hbw ga0 ga1 ga2 hz0 hW0 hln
  cases hfb : fewB (ahead ++ behind) 50 with
  | false =>
    have HFB := Lib.hid hfb
    clear hfb hg
    go_enter Try.func7, Try.ntmps7; go_upto_region 1 with fail; rw [← HW0.out]; go_wp2_with (first | (at_builtin; refine wpList_app rfl (.const (.slice none 0 0)) (.tmp 16) rfl elAc (fun _ => rfl) ac_one (base := W0.heap.size) (n := 0) (v := .slice none 0 0) (src := .slice A ahead.length c) (xs := ([] : List Ac)) (ys := ahead) rfl (by go_simp) rfl (World.ownsRow_nil _ _ _ _) HS1.out (Nat.le_refl _) (by have := HLN.out; simp [maxLen]; omega) (by have := HLN.out; simp; omega) ?_; intro v1 w1 ho1 hg1; have HB1 := Lib.hid (own_below (World.ownsRow_nil _ _ _ _ : W0.ownsRow W0.heap.size 51 3 (.slice none 0 0) 0 []) hg1 (Nat.le_refl _)); rw [List.nil_append] at ho1; obtain ⟨A1, c1, rfl⟩ := own_form ho1; have HO1 := Lib.hid ho1; clear ho1 hg1) | (at_builtin; refine wpList_app rfl (.tmp 17) (.tmp 18) rfl elAc (fun _ => rfl) ac_one (base := W0.heap.size) (v := .slice A1 ahead.length c1) (src := .slice B behind.length d) (xs := ahead) (ys := behind) (by go_simp) (by go_simp) rfl HO1.out (HS2.out.below HB1.out) HB1.out.size (by have := HLN.out; simp [maxLen]; omega) (by have := HLN.out; simp; omega) ?_; intro v2 w2 ho2 hg2; have HB2 := Lib.hid ((HB1.out.trans (own_below HO1.out hg2 HB1.out.size)) : Below W0.heap.size W0 w2); obtain ⟨A2, c2, rfl⟩ := own_form ho2; have hfw := few_any _ (ahead ++ behind) 50 w2 (SAt.ofOwn (enc := Ac.cells) (fun _ => rfl) rfl ho2); rw [List.length_append] at hfw; have HF := Lib.hid hfw; clear hfw; obtain ⟨x0, x1, x2⟩ := HX.out w2 HB2.out; clear ho2 hg2) | (go_at_call 17; refine HF.out.mono ?_; rintro e w3 ⟨rfl, rfl⟩; rw [HFB.out]) | (go_at_call 9; refine (known_any _).mono ?_; rintro e w4 ⟨rfl, hb4⟩; obtain ⟨y0, y1, y2⟩ := HX.out w4 (bl_then HB2.out hb4); have HB4 := Lib.hid (bl_then HB2.out hb4); clear hb4)); have hc9 : (w4.setCell ⟨w.heap.size + 1, 0, none⟩ (.bool true)).cell? ⟨w.heap.size + 1, 0, none⟩ = some (.bool true) := World.cell?_setCell_same' _ _ _ (by rw [y1]; rfl); refine bodyPost_ret (v := .bool true) (by simp [results, Try.results7, go_sem, hc9]) rfl ?_; exact ⟨rfl, bl_set (bl_then HBW.out HB4.out) (by show w.heap.size ≤ w.heap.size + 1; omega) _⟩
  | true =>
    have HFB := Lib.hid hfb
    by_cases hm1 : many < 1
    · clear hfb hg
      go_enter Try.func7, Try.ntmps7; go_upto_region 1 with fail; rw [← HW0.out]; go_wp2_with (first | (at_builtin; refine wpList_app rfl (.const (.slice none 0 0)) (.tmp 16) rfl elAc (fun _ => rfl) ac_one (base := W0.heap.size) (n := 0) (v := .slice none 0 0) (src := .slice A ahead.length c) (xs := ([] : List Ac)) (ys := ahead) rfl (by go_simp) rfl (World.ownsRow_nil _ _ _ _) HS1.out (Nat.le_refl _) (by have := HLN.out; simp [maxLen]; omega) (by have := HLN.out; simp; omega) ?_; intro v1 w1 ho1 hg1; have HB1 := Lib.hid (own_below (World.ownsRow_nil _ _ _ _ : W0.ownsRow W0.heap.size 51 3 (.slice none 0 0) 0 []) hg1 (Nat.le_refl _)); rw [List.nil_append] at ho1; obtain ⟨A1, c1, rfl⟩ := own_form ho1; have HO1 := Lib.hid ho1; clear ho1 hg1) | (at_builtin; refine wpList_app rfl (.tmp 17) (.tmp 18) rfl elAc (fun _ => rfl) ac_one (base := W0.heap.size) (v := .slice A1 ahead.length c1) (src := .slice B behind.length d) (xs := ahead) (ys := behind) (by go_simp) (by go_simp) rfl HO1.out (HS2.out.below HB1.out) HB1.out.size (by have := HLN.out; simp [maxLen]; omega) (by have := HLN.out; simp; omega) ?_; intro v2 w2 ho2 hg2; have HB2 := Lib.hid ((HB1.out.trans (own_below HO1.out hg2 HB1.out.size)) : Below W0.heap.size W0 w2); obtain ⟨A2, c2, rfl⟩ := own_form ho2; have hfw := few_any _ (ahead ++ behind) 50 w2 (SAt.ofOwn (enc := Ac.cells) (fun _ => rfl) rfl ho2); rw [List.length_append] at hfw; have HF := Lib.hid hfw; clear hfw; obtain ⟨x0, x1, x2⟩ := HX.out w2 HB2.out; clear ho2 hg2) | (go_at_call 17; refine HF.out.mono ?_; rintro e w3 ⟨rfl, rfl⟩; rw [HFB.out]) | (go_at_call 9; refine (known_any _).mono ?_; rintro e w4 ⟨rfl, hb4⟩; obtain ⟨y0, y1, y2⟩ := HX.out w4 (bl_then HB2.out hb4); have HB4 := Lib.hid (bl_then HB2.out hb4); clear hb4)); have hc9 : (w4.setCell ⟨w.heap.size + 1, 0, none⟩ (.bool true)).cell? ⟨w.heap.size + 1, 0, none⟩ = some (.bool true) := World.cell?_setCell_same' _ _ _ (by rw [y1]; rfl); refine bodyPost_ret (v := .bool true) (by simp [results, Try.results7, go_sem, hc9]) rfl ?_; exact ⟨rfl, bl_set (bl_then HBW.out HB4.out) (by show w.heap.size ≤ w.heap.size + 1; omega) _⟩
    · by_cases hm2 : 50 < many
      · clear hfb hg
        go_enter Try.func7, Try.ntmps7; go_upto_region 1 with fail; rw [← HW0.out]; go_wp2_with (first | (at_builtin; refine wpList_app rfl (.const (.slice none 0 0)) (.tmp 16) rfl elAc (fun _ => rfl) ac_one (base := W0.heap.size) (n := 0) (v := .slice none 0 0) (src := .slice A ahead.length c) (xs := ([] : List Ac)) (ys := ahead) rfl (by go_simp) rfl (World.ownsRow_nil _ _ _ _) HS1.out (Nat.le_refl _) (by have := HLN.out; simp [maxLen]; omega) (by have := HLN.out; simp; omega) ?_; intro v1 w1 ho1 hg1; have HB1 := Lib.hid (own_below (World.ownsRow_nil _ _ _ _ : W0.ownsRow W0.heap.size 51 3 (.slice none 0 0) 0 []) hg1 (Nat.le_refl _)); rw [List.nil_append] at ho1; obtain ⟨A1, c1, rfl⟩ := own_form ho1; have HO1 := Lib.hid ho1; clear ho1 hg1) | (at_builtin; refine wpList_app rfl (.tmp 17) (.tmp 18) rfl elAc (fun _ => rfl) ac_one (base := W0.heap.size) (v := .slice A1 ahead.length c1) (src := .slice B behind.length d) (xs := ahead) (ys := behind) (by go_simp) (by go_simp) rfl HO1.out (HS2.out.below HB1.out) HB1.out.size (by have := HLN.out; simp [maxLen]; omega) (by have := HLN.out; simp; omega) ?_; intro v2 w2 ho2 hg2; have HB2 := Lib.hid ((HB1.out.trans (own_below HO1.out hg2 HB1.out.size)) : Below W0.heap.size W0 w2); obtain ⟨A2, c2, rfl⟩ := own_form ho2; have hfw := few_any _ (ahead ++ behind) 50 w2 (SAt.ofOwn (enc := Ac.cells) (fun _ => rfl) rfl ho2); rw [List.length_append] at hfw; have HF := Lib.hid hfw; clear hfw; obtain ⟨x0, x1, x2⟩ := HX.out w2 HB2.out; clear ho2 hg2) | (go_at_call 17; refine HF.out.mono ?_; rintro e w3 ⟨rfl, rfl⟩; rw [HFB.out]) | (go_at_call 9; refine (known_any _).mono ?_; rintro e w4 ⟨rfl, hb4⟩; obtain ⟨y0, y1, y2⟩ := HX.out w4 (bl_then HB2.out hb4); have HB4 := Lib.hid (bl_then HB2.out hb4); clear hb4)); have hc9 : (w4.setCell ⟨w.heap.size + 1, 0, none⟩ (.bool true)).cell? ⟨w.heap.size + 1, 0, none⟩ = some (.bool true) := World.cell?_setCell_same' _ _ _ (by rw [y1]; rfl); refine bodyPost_ret (v := .bool true) (by simp [results, Try.results7, go_sem, hc9]) rfl ?_; exact ⟨rfl, bl_set (bl_then HBW.out HB4.out) (by show w.heap.size ≤ w.heap.size + 1; omega) _⟩
      · exact absurd ⟨hfb, by omega, by omega⟩ hg
set_option maxRecDepth 100000 in
set_option maxHeartbeats 4000000 in
theorem copies_main (va vb : Value) (ahead behind : List Ac) (many : Int) (w : World) (h1 : SAt Ac.cells 3 w va ahead) (h2 : SAt Ac.cells 3 w vb behind) (hln : (ahead.length + behind.length) * 32 ≤ 140737488355328) (hfb : fewB (ahead ++ behind) 50 = true) (hm1 : 1 ≤ many) (hm2 : many ≤ 50) :
    Calls Try.prog 7 #[va, vb, .int .i64 many] w fun e w' => e = .returned (.bool true) ∧ Below w.heap.size w w' := by
  obtain ⟨A, c, rfl⟩ := h1.slice
  obtain ⟨B, d, rfl⟩ := h2.slice
  obtain ⟨W0, hW0⟩ : ∃ W0, W0 = (w.alloc (.cells #[.int .i64 many] 3)).alloc (.cells #[.bool false] 4) := ⟨_, rfl⟩
  have hbw : Below w.heap.size w W0 := hW0 ▸ bl_alloc (bl_alloc (Below.refl _ _) _) _
  have ga0 : W0.cell? ⟨w.heap.size, 0, none⟩ = some (.int .i64 many) := by rw [hW0]; go_simp
  have ga1 : W0.cell? ⟨w.heap.size + 1, 0, none⟩ = some (.bool false) := by rw [hW0]; go_simp
  have ga2 : W0.frozen? ⟨w.heap.size + 1, 0, none⟩ = false := by rw [hW0]; go_simp
  have hz0 : W0.heap.size = w.heap.size + 2 := by rw [hW0]; simp
  have HX : Hid (∀ X, Below W0.heap.size W0 X → X.cell? ⟨w.heap.size, 0, none⟩ = some (.int .i64 many) ∧ X.cell? ⟨w.heap.size + 1, 0, none⟩ = some (.bool false) ∧ X.frozen? ⟨w.heap.size + 1, 0, none⟩ = false) :=
    Lib.hid fun X hX => ⟨bl_cell hX ga0, bl_cell hX ga1, ((bl_cells hX).2 _ _ (by omega)).trans ga2⟩
  have HBW := Lib.hid hbw
  have HW0 := Lib.hid hW0
  have HS1 := Lib.hid (h1.below hbw)
  have HS2 := Lib.hid (h2.below hbw)
  have HLN := Lib.hid hln
  have HFB := Lib.hid hfb
  have HMM := Lib.hid (And.intro hm1 hm2)
  have k1 : ¬ many < 1 := by omega
  have k2 : ¬ 50 < many := by omega
  have hlen1 : ahead.length ≤ 2 ^ 63 - 1 := by omega
  have hlen2 : behind.length ≤ 2 ^ 63 - 1 := by omega
  have HZ0 := Lib.hid hz0
  have HT56 : Hid (Boxed W0 w.heap.size 3 (.int .i64 many) ∧ Boxed W0 (w.heap.size + 1) 4 (.bool false)) := Lib.hid (by rw [hW0]; exact ⟨(Boxed.new w 3 _).alloc _, by have h9 := Boxed.new (w.alloc (.cells #[.int .i64 many] 3)) 4 (.bool false); rw [World.size_alloc] at h9; exact h9⟩)
  clear h1 h2 hbw ga0 ga1 ga2 hz0 hW0 hln hfb hm1 hm2
  refine callsIn_wide (n := 12) |>.1 ?_
  refine callsIn_of_wp_marks Try.func7 rfl trivial ?_ rfl
  simp only [Try.ntmps7, List.size_toArray, List.length_cons, List.length_nil, Nat.reduceAdd, Nat.reduceSub, Array.replicate_succ, Array.replicate_zero, List.push_toArray, List.append_toArray, List.nil_append, List.cons_append]
  refine wpIn_wide.2 ?_
  go_upto_region 1 with fail
  rw [← HW0.out]
  go_upto_region 4 with (first | (at_builtin; refine wpList_app rfl (.const (.slice none 0 0)) (.tmp 16) rfl elAc (fun _ => rfl) ac_one (base := W0.heap.size) (n := 0) (v := .slice none 0 0) (src := .slice A ahead.length c) (xs := ([] : List Ac)) (ys := ahead) rfl (by go_simp) rfl (World.ownsRow_nil _ _ _ _) HS1.out (Nat.le_refl _) (by have := HLN.out; simp [maxLen]; omega) (by have := HLN.out; simp; omega) ?_; intro v1 w1 ho1 hg1; have HB1 := Lib.hid (own_below (World.ownsRow_nil _ _ _ _ : W0.ownsRow W0.heap.size 51 3 (.slice none 0 0) 0 []) hg1 (Nat.le_refl _)); rw [List.nil_append] at ho1; obtain ⟨A1, c1, rfl⟩ := own_form ho1; have HO1 := Lib.hid ho1; clear ho1 hg1) | (at_builtin; refine wpList_app rfl (.tmp 17) (.tmp 18) rfl elAc (fun _ => rfl) ac_one (base := W0.heap.size) (v := .slice A1 ahead.length c1) (src := .slice B behind.length d) (xs := ahead) (ys := behind) (by go_simp) (by go_simp) rfl HO1.out (HS2.out.below HB1.out) HB1.out.size (by have := HLN.out; simp [maxLen]; omega) (by have := HLN.out; simp; omega) ?_; intro v2 w2 ho2 hg2; have HB2 := Lib.hid ((HB1.out.trans (own_below HO1.out hg2 HB1.out.size)) : Below W0.heap.size W0 w2); obtain ⟨A2, c2, rfl⟩ := own_form ho2; have hfw := few_any _ (ahead ++ behind) 50 w2 (SAt.ofOwn (enc := Ac.cells) (fun _ => rfl) rfl ho2); rw [List.length_append] at hfw; have HF := Lib.hid hfw; clear hfw; obtain ⟨x0, x1, x2⟩ := HX.out w2 HB2.out; clear ho2 hg2) | (go_at_call 17; refine HF.out.mono ?_; rintro e w3 ⟨rfl, rfl⟩; rw [HFB.out]) | (go_at_call 10; refine (new_all _).mono ?_; rintro e w0 ⟨p, r, rfl, hp, hr, ht, hb⟩; have HSE : Hid (∀ i, TSet p r [] i → W0.heap.size ≤ i) := Lib.hid (by have := HB2.out.size; rintro i (rfl | rfl | h); omega; omega; simp at h); have H0 := Lib.hid (two_new ht); have HB := Lib.hid (bl_then HB2.out hb); clear ht hb hp hr))
  clear x0 x1 x2 HF k1 k2 HB1 HO1 HB2
  have HPS := Lib.hid (playG_start (B := w0.heap.size + 1) (q := w0.heap.size) H0.out (bl_alloc (Below.refl w0.heap.size w0) (.cells #[.int .i64 0, .slice none 0 0] 47)) (by simp) (at_alloc rfl))
  go_wp2_with fail
  obtain ⟨q, hq⟩ : ∃ q, q = w0.heap.size := ⟨_, rfl⟩
  rw [← hq] at HPS
  have HQQ := Lib.hid hq
  have HB0 : Hid (∀ W now L es v, PlayG w0 (q + 1) q p r [] (.slice none 0 0) W now L es v → Below W0.heap.size W0 W) := Lib.hid fun W _ _ _ _ h1 => HB.out.trans (h1.st.mov.below HSE.out HB.out.size)
  rw [← hq]
  clear hq
  go_loopg [9] (ahead.length + 1) (fun gg s9 wr => ∃ k : Nat, k ≤ ahead.length ∧ ahead.length - k ≤ gg ∧ s9 = .int .i64 k ∧ Aside (∃ now L es v, PlayG w0 (q + 1) q p r [] (.slice none 0 0) wr now L es v))
  case atStart => exact ⟨0, by omega, by omega, rfl, 0, [], [], _, HPS.out⟩
  case round =>
    obtain ⟨k, hk, hgg, rfl, HP⟩ := hrel
    by_cases hlt : k < ahead.length
    · have hltz : (k : Int) < (ahead.length : Int) := by omega
      have hgk : ahead[k]? = some ahead[k] := List.getElem?_eq_getElem hlt
      generalize ahead[k] = a at hgk
      obtain ⟨now, L, es, v, hpl⟩ := HP.out
      have hbw := HB0.out _ _ _ _ _ hpl
      obtain ⟨A1, c1, rfl⟩ := hpl.st.two.sl.slice
      obtain ⟨g0, g1, f0, f1⟩ := cells2 hpl.box
      have hqz := (Array.getElem?_eq_some_iff.1 hpl.box).1
      obtain ⟨N', hN⟩ : ∃ N', N' = (doL now L a).1 := ⟨_, rfl⟩
      obtain ⟨L', hL⟩ : ∃ L', L' = (doL now L a).2 := ⟨_, rfl⟩
      have HDO : Hid (∀ W, Below wr.heap.size wr W → Calls Try.prog 18 #[.pointer (some ⟨p, 0, none⟩), .agg #[.int .i64 now, .slice A1 L.length c1], .agg #[.int .i64 a.kind, .string a.name, .int .i64 a.n]] W fun e w' => ∃ u es', e = .returned (.tuple #[.agg #[.int .i64 N', u], .bool true]) ∧
          w'.heap[q]? = some (.cells #[.int .i64 now, .slice A1 L.length c1] 47 (0, 0)) ∧ (∃ A n c, u = .slice A n c) ∧
          PlayG w0 (q + 1) q p r [] (.slice none 0 0) ((w'.setCell ⟨q, 0, none⟩ (.int .i64 N')).setCell ⟨q, 1, none⟩ u) N' L' es' u) := Lib.hid fun W hW => by
        rw [hN, hL]
        refine (playG_does a H0.out (by rw [HQQ.out]; exact Nat.le_refl _) (Nat.lt_succ_self _) (by omega) hpl W hW).mono ?_
        rintro e w' ⟨u, es', he, hx, hs, hp, -⟩
        exact ⟨u, es', he, hx, hs, hp⟩
      rcases HS1.out.below hbw with ⟨h1, h2⟩ | ⟨b, o, c', h1, _, _, hrow⟩
      · subst h2; simp at hlt
      · simp only [Value.slice.injEq] at h1
        obtain ⟨rfl, -, rfl⟩ := h1
        obtain ⟨c0, c1', c2⟩ := ac_row hrow hgk
        clear hrow hgk hbw hpl hN hL hqz
        go_upto_region 8 with fail
        refine wp_region_noPanic ?_
        refine wp_region_till 6 (S := (fun w' => (w'.cell? ⟨q, 0, none⟩ = some (.int .i64 now) ∧ w'.cell? ⟨q, 1, none⟩ = some (.slice A1 L.length c1)) ∧ w'.cell? ⟨b, o + k * 3, none⟩ = some (.int .i64 a.kind) ∧ w'.cell? ⟨b, o + k * 3 + 1, none⟩ = some (.string a.name) ∧ w'.cell? ⟨b, o + k * 3 + 2, none⟩ = some (.int .i64 a.n))) (by kernel_rfl) ⟨⟨g0, g1⟩, c0, c1', c2⟩ (fun hHeld => ?_)
        clear g0 g1 f0 f1 c0 c1' c2
        refine till_yes (i := 0) (v := ?_) rfl (by kernel_rfl) (by kernel_rfl) (by kernel_rfl) (by kernel_rfl) (by kernel_rfl) (fun _ _ _ h => h) (by kernel_rfl) (by assumption) ?_ ?_
        rotate_left 1
        · (intro w hSw; (try dsimp only at hSw); go_simp; try with_reducible rfl)
        try simp only [Act.put, List.setIfInBounds_toArray, List.set_cons_zero, List.set_cons_succ]

        refine till_yes (i := 1) (v := ?_) rfl (by kernel_rfl) (by kernel_rfl) (by kernel_rfl) (by kernel_rfl) (by kernel_rfl) (fun _ _ _ h => h) (by kernel_rfl) (by assumption) ?_ ?_
        rotate_left 1
        · (intro w hSw; (try dsimp only at hSw); go_simp; try with_reducible rfl)
        try simp only [Act.put, List.setIfInBounds_toArray, List.set_cons_zero, List.set_cons_succ]

        refine till_yes (i := 2) (v := ?_) rfl (by kernel_rfl) (by kernel_rfl) (by kernel_rfl) (by kernel_rfl) (by kernel_rfl) (fun _ _ _ h => h) (by kernel_rfl) (by assumption) ?_ ?_
        rotate_left 1
        · (intro w hSw; (try dsimp only at hSw); go_simp; try with_reducible rfl)
        try simp only [Act.put, List.setIfInBounds_toArray, List.set_cons_zero, List.set_cons_succ]

        refine till_yes (i := 3) (v := ?_) rfl (by kernel_rfl) (by kernel_rfl) (by kernel_rfl) (by kernel_rfl) (by kernel_rfl) (fun _ _ _ h => h) (by kernel_rfl) (by assumption) ?_ ?_
        rotate_left 1
        · (intro w hSw; (try dsimp only at hSw); go_simp; try with_reducible rfl)
        try simp only [Act.put, List.setIfInBounds_toArray, List.set_cons_zero, List.set_cons_succ]

        refine till_yes (i := 4) (v := ?_) rfl (by kernel_rfl) (by kernel_rfl) (by kernel_rfl) (by kernel_rfl) (by kernel_rfl) (fun _ _ _ h => h) (by kernel_rfl) (by assumption) ?_ ?_
        rotate_left 1
        · (intro w hSw; (try dsimp only at hSw); go_simp; try with_reducible rfl)
        try simp only [Act.put, List.setIfInBounds_toArray, List.set_cons_zero, List.set_cons_succ]

        refine till_yes (i := 5) (v := ?_) rfl (by kernel_rfl) (by kernel_rfl) (by kernel_rfl) (by kernel_rfl) (by kernel_rfl) (fun _ _ _ h => h) (by kernel_rfl) (by assumption) ?_ ?_
        rotate_left 1
        · (intro w hSw; (try dsimp only at hSw); go_simp; try with_reducible rfl)
        try simp only [Act.put, List.setIfInBounds_toArray, List.set_cons_zero, List.set_cons_succ]

        clear hHeld
        refine till_late (i := 6) rfl (by decide) (by kernel_rfl) (fun K' hK => ?_)
        go_simp
        refine (HDO.out _ (bl_drew (Below.refl _ _))).mono ?_
        rintro e w4 ⟨u, es', rfl, hb4, ⟨A5, n5, c5, rfl⟩, hp4⟩
        obtain ⟨d0, d1, d2, d3⟩ := cells2 hb4
        have HP4 := Lib.hid hp4
        clear hp4 hb4
        go_simp
        refine hK.out _ _ ?_
        clear hK K'
        try simp only [Act.put, List.setIfInBounds_toArray, List.set_cons_zero, List.set_cons_succ]
        refine till_late (i := 7) rfl (by decide) (by kernel_rfl) (fun K' hK => ?_)
        go_simp
        refine hK.out _ _ ?_
        clear hK K'
        try simp only [Act.put, List.setIfInBounds_toArray, List.set_cons_zero, List.set_cons_succ]
        refine till_pair (i := 8) (j := 9) rfl rfl (by decide) (by decide) (by kernel_rfl) (fun K' hK => ?_) (fun K' hK => ?_)
        · go_simp
          refine hK.out _ _ ?_
          clear hK K'
          try simp only [Act.put, List.setIfInBounds_toArray, List.set_cons_zero, List.set_cons_succ]
          refine till_pair (i := 9) (j := 10) rfl rfl (by decide) (by decide) (by kernel_rfl) (fun K' hK => ?_) (fun K' hK => ?_)
          · go_simp
            refine hK.out _ _ ?_
            clear hK K'
            try simp only [Act.put, List.setIfInBounds_toArray, List.set_cons_zero, List.set_cons_succ]
            refine till_late (i := 10) rfl (by decide) (by kernel_rfl) (fun K' hK => ?_)
            go_simp
            refine hK.out _ _ ?_
            clear hK K'
            try simp only [Act.put, List.setIfInBounds_toArray, List.set_cons_zero, List.set_cons_succ]
            refine till_done (by kernel_rfl) ?_ _
            refine NoPanic.normal ?_
            go_wp2_with fail; go_roundg (ahead.length - (k + 1)); (case measure => omega); (case rel => exact ⟨k + 1, by omega, by omega, by go_num, _, _, _, _, HP4.out⟩)
          · go_simp
            refine hK.out _ _ ?_
            clear hK K'
            try simp only [Act.put, List.setIfInBounds_toArray, List.set_cons_zero, List.set_cons_succ]
            refine till_late (i := 9) rfl (by decide) (by kernel_rfl) (fun K' hK => ?_)
            go_simp
            refine hK.out _ _ ?_
            clear hK K'
            try simp only [Act.put, List.setIfInBounds_toArray, List.set_cons_zero, List.set_cons_succ]
            refine till_done (by kernel_rfl) ?_ _
            refine NoPanic.normal ?_
            go_wp2_with fail; go_roundg (ahead.length - (k + 1)); (case measure => omega); (case rel => exact ⟨k + 1, by omega, by omega, by go_num, _, _, _, _, HP4.out⟩)
        · go_simp
          refine hK.out _ _ ?_
          clear hK K'
          try simp only [Act.put, List.setIfInBounds_toArray, List.set_cons_zero, List.set_cons_succ]
          refine till_late (i := 8) rfl (by decide) (by kernel_rfl) (fun K' hK => ?_)
          go_simp
          refine hK.out _ _ ?_
          clear hK K'
          try simp only [Act.put, List.setIfInBounds_toArray, List.set_cons_zero, List.set_cons_succ]
          refine till_late (i := 10) rfl (by decide) (by kernel_rfl) (fun K' hK => ?_)
          go_simp
          refine hK.out _ _ ?_
          clear hK K'
          try simp only [Act.put, List.setIfInBounds_toArray, List.set_cons_zero, List.set_cons_succ]
          refine till_done (by kernel_rfl) ?_ _
          refine NoPanic.normal ?_
          go_wp2_with fail; go_roundg (ahead.length - (k + 1)); (case measure => omega); (case rel => exact ⟨k + 1, by omega, by omega, by go_num, _, _, _, _, HP4.out⟩)
    · obtain rfl : k = ahead.length := by omega
      have hltz : ¬ ((ahead.length : Nat) : Int) < ((ahead.length : Nat) : Int) := by omega
      obtain ⟨wa, hwa⟩ : ∃ wa, wa = wr := ⟨_, rfl⟩
      subst hwa
      obtain ⟨now, L, es, v, hpl⟩ := HP.out
      have hbw := HB0.out _ _ _ _ _ hpl
      obtain ⟨A1, c1, rfl⟩ := hpl.st.two.sl.slice
      have HPL := Lib.hid hpl
      have HBR := Lib.hid hbw
      have HCP := Lib.hid (copy_all p r now L es wa hpl.st.two.tb)
      obtain ⟨g0, g1, -, -⟩ := cells2 hpl.box
      have hnf := eql_nilFunc
      clear hpl hbw HPS HP
      go_upto_region 10 with (go_at_call 22; refine HCP.out.mono ?_; rintro e wc ⟨p2, r2, es2, rfl, hs2, ht2, hbc⟩)
      have g0 := bl_cell hbc g0
      have g1 := bl_cell hbc g1
      have hfar : ∀ j, (Value.slice A1 L.length c1).ownBlock = some j → ¬ TSet p2 r2 es2 j ∧ j < wc.heap.size := fun j hj => by
        have h9 := (HPL.out.st.two.far j hj).2
        have h8 := hbc.size
        exact ⟨fun hs => by have := hs2 j hs; omega, by omega⟩
      have H2 : Hid (Two wc p2 r2 now L es2 (.slice A1 L.length c1)) := Lib.hid ⟨ht2, HPL.out.st.two.sl.below hbc, hfar⟩
      have HS2' := Lib.hid hs2
      have HBC := Lib.hid hbc
      have hba := bl_alloc (Below.refl wc.heap.size wc) (.cells #[.int .i64 now, .slice A1 L.length c1] 47)
      have hbx5 : (wc.alloc (.cells #[.int .i64 now, .slice A1 L.length c1] 47)).heap[wc.heap.size]? = some (.cells #[.int .i64 now, .slice A1 L.length c1] 47 (0, 0)) := at_alloc rfl
      have HAL := Lib.hid (allf_any p r now es L _ ((HPL.out.st.two.tb.below hbc).below hba).tab HPL.out.st.two.tb.isL (by have := HPL.out.st.two.tb.len; have := HPL.out.st.two.tb.few; omega))
      have HBA := Lib.hid (And.intro hba hbx5)
      clear hs2 ht2 hbc hba hbx5 hfar HCP
      go_upto_block 2 with (go_at_call 23; refine HAL.out.mono ?_; rintro e w6 ⟨bs, u, rfl, hA⟩)
      have hb8 : Below wc.heap.size wc (w6.alloc (.cells #[.int .i64 0] 3)) := bl_then HBA.out.1 (bl_then hA.2.2.2 (bl_alloc (Below.refl _ _) _))
      have hz8 : (w6.alloc (.cells #[.int .i64 0] 3)).heap.size = w6.heap.size + 1 := by simp
      have hk8 : Boxed (w6.alloc (.cells #[.int .i64 0] 3)) w6.heap.size 3 (.int .i64 0) := Boxed.new _ _ _
      have hic : (w6.alloc (.cells #[.int .i64 0] 3)).cell? ⟨bs, 0, none⟩ = some u := bl_cell (bl_alloc (Below.refl _ _) _) hA.2.1
      have his : SAt Th.cells 4 (w6.alloc (.cells #[.int .i64 0] 3)) u L := own_sat (own_lies hA.2.2.1 (bl_alloc (Below.refl _ _) _))
      have hiv : ∀ j, u.ownBlock = some j → j ≠ w6.heap.size ∧ j < w6.heap.size + 1 := fun j hj => by have := (own_ge hA.2.2.1 hj).2; omega
      have hc6 : wc.heap.size < w6.heap.size := by have := hA.2.2.2.size; simp at this; omega
      have hbc8 := ((bl_then hA.2.2.2 (bl_alloc (Below.refl w6.heap.size w6) (.cells #[.int .i64 0] 3))).block wc.heap.size (by simp)).trans HBA.out.2
      generalize (w6.alloc (.cells #[.int .i64 0] 3)) = w8 at hb8 hz8 hk8 hic his hbc8 ⊢
      obtain ⟨ib, hib⟩ : ∃ ib, ib = w6.heap.size := ⟨_, rfl⟩
      rw [← hib] at hz8 hk8 hiv hc6 ⊢
      have hst := all_stops 11 (by omega) ib (ib + 1) bs u L w8 (by omega) hic (fun X hX => sat_keepX his hX hiv)
      have hrc := HBC.out.size
      have hqr : q < wa.heap.size := (Array.getElem?_eq_some_iff.1 HPL.out.box).1
      have hwr : W0.heap.size ≤ wa.heap.size := HBR.out.size
      have h08 : Below W0.heap.size W0 w8 := HBR.out.trans ((bl_then HBC.out hb8).mono hwr)
      have hT5 := boxed_blw HT56.out.1 h08
      have hT6 := boxed_blw HT56.out.2 h08
      have hP8 := HPL.out.below (bl_then HBC.out hb8)
      have hC8 := playG_start (B := w8.heap.size) (q := wc.heap.size) H2.out hb8 (Nat.le_refl _) hbc8
      have HP8 := Lib.hid hP8
      have HC8 := Lib.hid hC8
      have HT8 := Lib.hid (And.intro hT5 hT6)
      have HB8 := Lib.hid (And.intro hb8 h08)
      have hsl8 := hP8.st.two.sl
      have hqib : q < ib := by omega
      have hfA : ∀ j, (Value.slice A1 L.length c1).ownBlock = some j → j ≠ ib := fun j hj => by have := (HPL.out.st.two.far j hj).2; omega
      have hw06 : w.heap.size + 1 < ib := by have := HZ0.out; omega
      have HFX : Hid (∀ W, Below ib w8 W → W.cell? ⟨q, 1, none⟩ = some (.slice A1 L.length c1) ∧ SAt Th.cells 4 W (.slice A1 L.length c1) L ∧ Boxed W w.heap.size 3 (.int .i64 many) ∧ Boxed W (w.heap.size + 1) 4 (.bool false)) := Lib.hid fun W hW => by
        have hm := mov_last hW (by omega)
        exact ⟨hm.cell (cells2 hP8.box).2.1 (by omega), sat_mov hsl8 hm hfA, boxed_mov hT5 hm (by omega), boxed_mov hT6 hm (by omega)⟩
      have hz8a : w8.heap.size ≤ ib + 1 := by omega
      have hz8b : ib < w8.heap.size := by omega
      clear hb8 hic his hbc8 hiv hA hT5 hT6 hP8 hC8 hsl8 hfA HAL HBA h08 g0 g1 hib hz8
      refine (wpIn_wide (n := 12)).1 ?_
      refine wpIn_meet (fun D W => w8.heap.size ≤ D ∧ W.heap[D]? = some (.deferred (some [])) ∧ Below ib w8 W ∧ W.cell? ⟨ib, 0, none⟩ = some (.int .i64 (min many (L.length : Nat)))) ?rng ?rest
      case rng =>
        refine wpIn_block ?_
        refine range_boxF (p := 57) (q := 14) 35 (by omega) rfl en_allit hst (fun h k => h.trans k) (KeepX.put (by omega)) (KeepX.alloc _ _)
          (GoI ib w8 L many) (goI_own (by omega)) ⟨⟨Below.refl _ _, hk8.cell, hk8.frozen⟩, List.nil_prefix, by have := HMM.out; simp; omega⟩ (GoX ib w8 L many) (goX_own (by omega)) (fun _ _ => True) (fun _ _ _ _ _ _ _ _ => trivial) (fun _ _ _ _ => trivial) ?hassign ?hbody (fun pre W h => h.1.1.size) ?hdone ?hstop
        case hassign =>
          intro l x W K hK
          simp only [Th.cells, List.setIfInBounds_toArray, List.set_cons_zero, List.set_cons_succ] at hK ⊢
          gi_wp2
          exact hK
        case hdone =>
          rintro D xs W hD rfl ⟨⟨hB, hc, hf⟩, hp, hlt⟩ hK
          refine ⟨rfl, D, rfl, hD, hK, hB, ?_⟩
          rw [hc]
          congr 2
          omega
        case hstop =>
          rintro D cc pre W hD hp hx hK
          rcases hx with ⟨rfl, hno⟩ | ⟨rfl, hB, hc, hf, h2, h3⟩
          · exact absurd hp hno
          · gi_wp2
            refine ⟨by first | rfl | trivial, D, by first | rfl | trivial, hD, hK, hB, ?_⟩
            rw [hc]
            have hle := (List.IsPrefix.length_le h2)
            congr 2
            omega
        case hbody =>
          rintro l pre x Bx W ⟨r, hr⟩ hBx hbx - ⟨⟨hB, hc, hf⟩, hp, hlt⟩ hN
          obtain ⟨hg1, hsa, hb5, hb6⟩ := HFX.out W hB
          have hgy : L[pre.length]? = some L[pre.length] := List.getElem?_eq_getElem hN
          generalize L[pre.length] = y at hgy
          have hNz : (pre.length : Int) < (L.length : Int) := by omega
          rcases hsa with ⟨h1, h2⟩ | ⟨b, o, c', h1, _, _, hrow⟩
          · subst h2; simp at hN
          · simp only [Value.slice.injEq] at h1
            obtain ⟨rfl, -, rfl⟩ := h1
            obtain ⟨c0, c1', c2, c3⟩ := th_row hrow hgy
            obtain ⟨x0, x1, x2, x3, -, -, -, -⟩ := cells4 hbx
            have t5c := hb5.cell
            have t6c := hb6.cell
            have t6f := hb6.frozen
            have hneq := neq_th x y
            dsimp only [Th.val] at hneq
            simp only [List.setIfInBounds_toArray, List.set_cons_zero, List.set_cons_succ, Th.cells]
            refine wpIn_block ?_
            refine wpIn_seq ?_
            refine wpIn_seq ?_
            have HSX := Lib.hid (show (fun w' : World => ((w'.cell? ⟨ib, 0, none⟩ = some (.int .i64 (pre.length : Nat)) ∧ w'.cell? ⟨q, 1, none⟩ = some (.slice (some ⟨b, o, none⟩) L.length c1)) ∧ (w'.cell? ⟨b, o + pre.length * 4, none⟩ = some (.string y.name) ∧ w'.cell? ⟨b, o + pre.length * 4 + 1, none⟩ = some (.int .i64 y.period) ∧ w'.cell? ⟨b, o + pre.length * 4 + 2, none⟩ = some (.int .i64 y.next) ∧ w'.cell? ⟨b, o + pre.length * 4 + 3, none⟩ = some (.int .i64 y.forgot)) ∧ w'.cell? ⟨Bx, 0, none⟩ = some (.string x.name) ∧ w'.cell? ⟨Bx, 1, none⟩ = some (.int .i64 x.period) ∧ w'.cell? ⟨Bx, 2, none⟩ = some (.int .i64 x.next) ∧ w'.cell? ⟨Bx, 3, none⟩ = some (.int .i64 x.forgot))) W.drew from ⟨⟨hc, hg1⟩, ⟨c0, c1', c2, c3⟩, x0, x1, x2, x3⟩)
            have HGY := Lib.hid hgy
            have HP := Lib.hid hp
            have HLT := Lib.hid hlt
            have HBB := Lib.hid hB
            have HF := Lib.hid hf
            clear hrow hgy hp hlt hg1 c0 c1' c2 c3 x0 x1 x2 x3 hb5 hb6 hbx
            have HW1 : Hid (wrap64 ((pre.length : Int) + 1) = (pre.length : Int) + 1) := Lib.hid (wrap_in (by have := HMM.out; have := HLT.out; omega))
            have HLE : Hid ((pre.length : Int) + 1 ≠ many → (pre.length : Int) + 1 < many) := Lib.hid fun h => by have := HLT.out; omega
            have hge : ¬ (L.length : Int) ≤ (pre.length : Int) := by omega
            have hge2 : ¬ L.length ≤ pre.length := by omega
            have hge3 : decide (L.length ≤ pre.length) = false := by simp; omega
            by_cases hxy : x = y
            · rw [decide_eq_true hxy] at hneq
              have HXY := Lib.hid hxy
              clear hxy
              refine wpIn_region_till 14 (S := (fun w' => ((w'.cell? ⟨ib, 0, none⟩ = some (.int .i64 (pre.length : Nat)) ∧ w'.cell? ⟨q, 1, none⟩ = some (.slice (some ⟨b, o, none⟩) L.length c1)) ∧ (w'.cell? ⟨b, o + pre.length * 4, none⟩ = some (.string y.name) ∧ w'.cell? ⟨b, o + pre.length * 4 + 1, none⟩ = some (.int .i64 y.period) ∧ w'.cell? ⟨b, o + pre.length * 4 + 2, none⟩ = some (.int .i64 y.next) ∧ w'.cell? ⟨b, o + pre.length * 4 + 3, none⟩ = some (.int .i64 y.forgot)) ∧ w'.cell? ⟨Bx, 0, none⟩ = some (.string x.name) ∧ w'.cell? ⟨Bx, 1, none⟩ = some (.int .i64 x.period) ∧ w'.cell? ⟨Bx, 2, none⟩ = some (.int .i64 x.next) ∧ w'.cell? ⟨Bx, 3, none⟩ = some (.int .i64 x.forgot)))) (by kernel_rfl) (noDefer (by kernel_rfl)) HSX.out (fun hHeld => ?_)
              refine till_yes (i := 0) (v := ?_) rfl (by kernel_rfl) (by kernel_rfl) (by kernel_rfl) (by kernel_rfl) (by kernel_rfl) (fun _ _ _ h => h) (by kernel_rfl) (by assumption) ?_ ?_
              rotate_left 1
              · (intro w hSw; (try dsimp only at hSw); go_simp; try with_reducible rfl)
              try simp only [Act.put, List.setIfInBounds_toArray, List.set_cons_zero, List.set_cons_succ]

              refine till_yes (i := 1) (v := ?_) rfl (by kernel_rfl) (by kernel_rfl) (by kernel_rfl) (by kernel_rfl) (by kernel_rfl) (fun _ _ _ h => h) (by kernel_rfl) (by assumption) ?_ ?_
              rotate_left 1
              · (intro w hSw; (try dsimp only at hSw); go_simp; try with_reducible rfl)
              try simp only [Act.put, List.setIfInBounds_toArray, List.set_cons_zero, List.set_cons_succ]

              refine till_yes (i := 2) (v := ?_) rfl (by kernel_rfl) (by kernel_rfl) (by kernel_rfl) (by kernel_rfl) (by kernel_rfl) (fun _ _ _ h => h) (by kernel_rfl) (by assumption) ?_ ?_
              rotate_left 1
              · (intro w hSw; (try dsimp only at hSw); go_simp; try with_reducible rfl)
              try simp only [Act.put, List.setIfInBounds_toArray, List.set_cons_zero, List.set_cons_succ]

              refine till_yes (i := 3) (v := ?_) rfl (by kernel_rfl) (by kernel_rfl) (by kernel_rfl) (by kernel_rfl) (by kernel_rfl) (fun _ _ _ h => h) (by kernel_rfl) (by assumption) ?_ ?_
              rotate_left 1
              · (intro w hSw; (try dsimp only at hSw); go_simp; try with_reducible rfl)
              try simp only [Act.put, List.setIfInBounds_toArray, List.set_cons_zero, List.set_cons_succ]

              refine till_yes (i := 4) (v := ?_) rfl (by kernel_rfl) (by kernel_rfl) (by kernel_rfl) (by kernel_rfl) (by kernel_rfl) (fun _ _ _ h => h) (by kernel_rfl) (by assumption) ?_ ?_
              rotate_left 1
              · (intro w hSw; (try dsimp only at hSw); go_simp; try with_reducible rfl)
              try simp only [Act.put, List.setIfInBounds_toArray, List.set_cons_zero, List.set_cons_succ]

              refine till_yes (i := 5) (v := ?_) rfl (by kernel_rfl) (by kernel_rfl) (by kernel_rfl) (by kernel_rfl) (by kernel_rfl) (fun _ _ _ h => h) (by kernel_rfl) (by assumption) ?_ ?_
              rotate_left 1
              · (intro w hSw; (try dsimp only at hSw); go_simp; try with_reducible rfl)
              try simp only [Act.put, List.setIfInBounds_toArray, List.set_cons_zero, List.set_cons_succ]

              refine till_yes (i := 6) (v := ?_) rfl (by kernel_rfl) (by kernel_rfl) (by kernel_rfl) (by kernel_rfl) (by kernel_rfl) (fun _ _ _ h => h) (by kernel_rfl) (by assumption) ?_ ?_
              rotate_left 1
              · (intro w hSw; (try dsimp only at hSw); go_simp; try with_reducible rfl)
              try simp only [Act.put, List.setIfInBounds_toArray, List.set_cons_zero, List.set_cons_succ]

              refine till_yes (i := 7) (v := ?_) rfl (by kernel_rfl) (by kernel_rfl) (by kernel_rfl) (by kernel_rfl) (by kernel_rfl) (fun _ _ _ h => h) (by kernel_rfl) (by assumption) ?_ ?_
              rotate_left 1
              · (intro w hSw; (try dsimp only at hSw); go_simp; try with_reducible rfl)
              try simp only [Act.put, List.setIfInBounds_toArray, List.set_cons_zero, List.set_cons_succ]

              refine till_yes (i := 8) (v := ?_) rfl (by kernel_rfl) (by kernel_rfl) (by kernel_rfl) (by kernel_rfl) (by kernel_rfl) (fun _ _ _ h => h) (by kernel_rfl) (by assumption) ?_ ?_
              rotate_left 1
              · (intro w hSw; (try dsimp only at hSw); go_simp; try with_reducible rfl)
              try simp only [Act.put, List.setIfInBounds_toArray, List.set_cons_zero, List.set_cons_succ]

              refine till_yes (i := 9) (v := ?_) rfl (by kernel_rfl) (by kernel_rfl) (by kernel_rfl) (by kernel_rfl) (by kernel_rfl) (fun _ _ _ h => h) (by kernel_rfl) (by assumption) ?_ ?_
              rotate_left 1
              · (intro w hSw; (try dsimp only at hSw); go_simp; try with_reducible rfl)
              try simp only [Act.put, List.setIfInBounds_toArray, List.set_cons_zero, List.set_cons_succ]

              refine till_yes (i := 10) (v := ?_) rfl (by kernel_rfl) (by kernel_rfl) (by kernel_rfl) (by kernel_rfl) (by kernel_rfl) (fun _ _ _ h => h) (by kernel_rfl) (by assumption) ?_ ?_
              rotate_left 1
              · (intro w hSw; (try dsimp only at hSw); go_simp; try with_reducible rfl)
              try simp only [Act.put, List.setIfInBounds_toArray, List.set_cons_zero, List.set_cons_succ]

              refine till_yes (i := 11) (v := ?_) rfl (by kernel_rfl) (by kernel_rfl) (by kernel_rfl) (by kernel_rfl) (by kernel_rfl) (fun _ _ _ h => h) (by kernel_rfl) (by assumption) ?_ ?_
              rotate_left 1
              · (intro w hSw; (try dsimp only at hSw); go_simp; try with_reducible rfl)
              try simp only [Act.put, List.setIfInBounds_toArray, List.set_cons_zero, List.set_cons_succ]

              refine till_yes (i := 12) (v := ?_) rfl (by kernel_rfl) (by kernel_rfl) (by kernel_rfl) (by kernel_rfl) (by kernel_rfl) (fun _ _ _ h => h) (by kernel_rfl) (by assumption) ?_ ?_
              rotate_left 1
              · (intro w hSw; (try dsimp only at hSw); go_simp; try with_reducible rfl)
              try simp only [Act.put, List.setIfInBounds_toArray, List.set_cons_zero, List.set_cons_succ]

              refine till_yes (i := 13) (v := ?_) rfl (by kernel_rfl) (by kernel_rfl) (by kernel_rfl) (by kernel_rfl) (by kernel_rfl) (fun _ _ _ h => h) (by kernel_rfl) (by assumption) ?_ ?_
              rotate_left 1
              · (intro w hSw; (try dsimp only at hSw); go_simp; try with_reducible rfl)
              try simp only [Act.put, List.setIfInBounds_toArray, List.set_cons_zero, List.set_cons_succ]

              refine till_done (by kernel_rfl) ?_ _
              clear hHeld hneq
              change Code.wpIn _ _ _ _ _ _ _
              obtain ⟨F', hF'⟩ : ∃ F' : Fence, F'.inRound l = Fence.wide.inRound l := ⟨_, rfl⟩
              rw [← hF']
              clear hF'
              have hw1 := HW1.out
              by_cases hmn : (pre.length : Int) + 1 = many
              · have HMN := Lib.hid hmn
                have hmb : (((pre.length : Int) + 1) == many) = true := by simpa using hmn
                clear hmn
                gi_wp2
                obtain ⟨q1, q2, q3, q4, q5⟩ := go_set HBB.out hc HF.out (.int .i64 ((pre.length : Int) + 1))
                refine ⟨q4.from _, Or.inr ⟨rfl, q1, ?_, q3, ?_, ?_⟩⟩
                · rw [q2]; simp
                · rw [HXY.out]; exact pre_snoc HP.out HGY.out
                · rw [← HMN.out]; simp
              · have HMN := Lib.hid hmn
                have hmb : (((pre.length : Int) + 1) == many) = false := by simpa using hmn
                clear hmn
                gi_wp2
                obtain ⟨q1, q2, q3, q4, q5⟩ := go_set HBB.out hc HF.out (.int .i64 ((pre.length : Int) + 1))
                refine ⟨q4.from _, q5, ⟨q1, ?_, q3⟩, ?_, ?_⟩
                · rw [q2]; simp
                · rw [HXY.out]; exact pre_snoc HP.out HGY.out
                · have h1 := HLE.out HMN.out
                  simpa using h1
            · rw [decide_eq_false hxy] at hneq
              have HXY := Lib.hid hxy
              clear hxy
              refine wpIn_region_till 14 (S := (fun w' => ((w'.cell? ⟨ib, 0, none⟩ = some (.int .i64 (pre.length : Nat)) ∧ w'.cell? ⟨q, 1, none⟩ = some (.slice (some ⟨b, o, none⟩) L.length c1)) ∧ (w'.cell? ⟨b, o + pre.length * 4, none⟩ = some (.string y.name) ∧ w'.cell? ⟨b, o + pre.length * 4 + 1, none⟩ = some (.int .i64 y.period) ∧ w'.cell? ⟨b, o + pre.length * 4 + 2, none⟩ = some (.int .i64 y.next) ∧ w'.cell? ⟨b, o + pre.length * 4 + 3, none⟩ = some (.int .i64 y.forgot)) ∧ w'.cell? ⟨Bx, 0, none⟩ = some (.string x.name) ∧ w'.cell? ⟨Bx, 1, none⟩ = some (.int .i64 x.period) ∧ w'.cell? ⟨Bx, 2, none⟩ = some (.int .i64 x.next) ∧ w'.cell? ⟨Bx, 3, none⟩ = some (.int .i64 x.forgot)))) (by kernel_rfl) (noDefer (by kernel_rfl)) HSX.out (fun hHeld => ?_)
              refine till_yes (i := 0) (v := ?_) rfl (by kernel_rfl) (by kernel_rfl) (by kernel_rfl) (by kernel_rfl) (by kernel_rfl) (fun _ _ _ h => h) (by kernel_rfl) (by assumption) ?_ ?_
              rotate_left 1
              · (intro w hSw; (try dsimp only at hSw); go_simp; try with_reducible rfl)
              try simp only [Act.put, List.setIfInBounds_toArray, List.set_cons_zero, List.set_cons_succ]

              refine till_yes (i := 1) (v := ?_) rfl (by kernel_rfl) (by kernel_rfl) (by kernel_rfl) (by kernel_rfl) (by kernel_rfl) (fun _ _ _ h => h) (by kernel_rfl) (by assumption) ?_ ?_
              rotate_left 1
              · (intro w hSw; (try dsimp only at hSw); go_simp; try with_reducible rfl)
              try simp only [Act.put, List.setIfInBounds_toArray, List.set_cons_zero, List.set_cons_succ]

              refine till_yes (i := 2) (v := ?_) rfl (by kernel_rfl) (by kernel_rfl) (by kernel_rfl) (by kernel_rfl) (by kernel_rfl) (fun _ _ _ h => h) (by kernel_rfl) (by assumption) ?_ ?_
              rotate_left 1
              · (intro w hSw; (try dsimp only at hSw); go_simp; try with_reducible rfl)
              try simp only [Act.put, List.setIfInBounds_toArray, List.set_cons_zero, List.set_cons_succ]

              refine till_yes (i := 3) (v := ?_) rfl (by kernel_rfl) (by kernel_rfl) (by kernel_rfl) (by kernel_rfl) (by kernel_rfl) (fun _ _ _ h => h) (by kernel_rfl) (by assumption) ?_ ?_
              rotate_left 1
              · (intro w hSw; (try dsimp only at hSw); go_simp; try with_reducible rfl)
              try simp only [Act.put, List.setIfInBounds_toArray, List.set_cons_zero, List.set_cons_succ]

              refine till_yes (i := 4) (v := ?_) rfl (by kernel_rfl) (by kernel_rfl) (by kernel_rfl) (by kernel_rfl) (by kernel_rfl) (fun _ _ _ h => h) (by kernel_rfl) (by assumption) ?_ ?_
              rotate_left 1
              · (intro w hSw; (try dsimp only at hSw); go_simp; try with_reducible rfl)
              try simp only [Act.put, List.setIfInBounds_toArray, List.set_cons_zero, List.set_cons_succ]

              refine till_yes (i := 5) (v := ?_) rfl (by kernel_rfl) (by kernel_rfl) (by kernel_rfl) (by kernel_rfl) (by kernel_rfl) (fun _ _ _ h => h) (by kernel_rfl) (by assumption) ?_ ?_
              rotate_left 1
              · (intro w hSw; (try dsimp only at hSw); go_simp; try with_reducible rfl)
              try simp only [Act.put, List.setIfInBounds_toArray, List.set_cons_zero, List.set_cons_succ]

              refine till_yes (i := 6) (v := ?_) rfl (by kernel_rfl) (by kernel_rfl) (by kernel_rfl) (by kernel_rfl) (by kernel_rfl) (fun _ _ _ h => h) (by kernel_rfl) (by assumption) ?_ ?_
              rotate_left 1
              · (intro w hSw; (try dsimp only at hSw); go_simp; try with_reducible rfl)
              try simp only [Act.put, List.setIfInBounds_toArray, List.set_cons_zero, List.set_cons_succ]

              refine till_yes (i := 7) (v := ?_) rfl (by kernel_rfl) (by kernel_rfl) (by kernel_rfl) (by kernel_rfl) (by kernel_rfl) (fun _ _ _ h => h) (by kernel_rfl) (by assumption) ?_ ?_
              rotate_left 1
              · (intro w hSw; (try dsimp only at hSw); go_simp; try with_reducible rfl)
              try simp only [Act.put, List.setIfInBounds_toArray, List.set_cons_zero, List.set_cons_succ]

              refine till_yes (i := 8) (v := ?_) rfl (by kernel_rfl) (by kernel_rfl) (by kernel_rfl) (by kernel_rfl) (by kernel_rfl) (fun _ _ _ h => h) (by kernel_rfl) (by assumption) ?_ ?_
              rotate_left 1
              · (intro w hSw; (try dsimp only at hSw); go_simp; try with_reducible rfl)
              try simp only [Act.put, List.setIfInBounds_toArray, List.set_cons_zero, List.set_cons_succ]

              refine till_yes (i := 9) (v := ?_) rfl (by kernel_rfl) (by kernel_rfl) (by kernel_rfl) (by kernel_rfl) (by kernel_rfl) (fun _ _ _ h => h) (by kernel_rfl) (by assumption) ?_ ?_
              rotate_left 1
              · (intro w hSw; (try dsimp only at hSw); go_simp; try with_reducible rfl)
              try simp only [Act.put, List.setIfInBounds_toArray, List.set_cons_zero, List.set_cons_succ]

              refine till_yes (i := 10) (v := ?_) rfl (by kernel_rfl) (by kernel_rfl) (by kernel_rfl) (by kernel_rfl) (by kernel_rfl) (fun _ _ _ h => h) (by kernel_rfl) (by assumption) ?_ ?_
              rotate_left 1
              · (intro w hSw; (try dsimp only at hSw); go_simp; try with_reducible rfl)
              try simp only [Act.put, List.setIfInBounds_toArray, List.set_cons_zero, List.set_cons_succ]

              refine till_yes (i := 11) (v := ?_) rfl (by kernel_rfl) (by kernel_rfl) (by kernel_rfl) (by kernel_rfl) (by kernel_rfl) (fun _ _ _ h => h) (by kernel_rfl) (by assumption) ?_ ?_
              rotate_left 1
              · (intro w hSw; (try dsimp only at hSw); go_simp; try with_reducible rfl)
              try simp only [Act.put, List.setIfInBounds_toArray, List.set_cons_zero, List.set_cons_succ]

              refine till_yes (i := 12) (v := ?_) rfl (by kernel_rfl) (by kernel_rfl) (by kernel_rfl) (by kernel_rfl) (by kernel_rfl) (fun _ _ _ h => h) (by kernel_rfl) (by assumption) ?_ ?_
              rotate_left 1
              · (intro w hSw; (try dsimp only at hSw); go_simp; try with_reducible rfl)
              try simp only [Act.put, List.setIfInBounds_toArray, List.set_cons_zero, List.set_cons_succ]

              refine till_yes (i := 13) (v := ?_) rfl (by kernel_rfl) (by kernel_rfl) (by kernel_rfl) (by kernel_rfl) (by kernel_rfl) (fun _ _ _ h => h) (by kernel_rfl) (by assumption) ?_ ?_
              rotate_left 1
              · (intro w hSw; (try dsimp only at hSw); go_simp; try with_reducible rfl)
              try simp only [Act.put, List.setIfInBounds_toArray, List.set_cons_zero, List.set_cons_succ]

              refine till_done (by kernel_rfl) ?_ _
              clear hHeld hneq
              change Code.wpIn _ _ _ _ _ _ _
              obtain ⟨F', hF'⟩ : ∃ F' : Fence, F'.inRound l = Fence.wide.inRound l := ⟨_, rfl⟩
              rw [← hF']
              clear hF'
              gi_wp2
              refine ⟨⟨(KeepsOthers.setCell W ⟨w.heap.size + 1, 0, none⟩ (.bool false)).size, fun i o hi => (KeepsOthers.setCell W ⟨w.heap.size + 1, 0, none⟩ (.bool false)).same i o⟩, Or.inl ⟨rfl, fun h => HXY.out ?_⟩⟩
              have h1 := pre_get h
              rw [HGY.out] at h1
              cases h1
              rfl
      case rest =>
        rintro D W ⟨hD, hKD, hB, hc⟩
        have hcW : Below wc.heap.size wc W := HB8.out.1.trans (hB.mono (by omega))
        have hC := playG_start (B := W.heap.size) (q := wc.heap.size) H2.out hcW (Nat.le_refl _) ((hB.block wc.heap.size (by omega)).trans HC8.out.box)
        have hcB : wc.heap.size < W.heap.size := (Array.getElem?_eq_some_iff.1 hC.box).1
        have hT := HPL.out.st.two.below (bl_then HBC.out hcW)
        have hbx := (Below.block (bl_then HBC.out hcW) q hqr).trans HPL.out.box
        have h0W : Below W0.heap.size W0 W := HBR.out.trans ((bl_then HBC.out hcW).mono hwr)
        have HBM : Hid (∀ X, MovS (fun i => TSet p2 r2 es2 i ∨ i = wc.heap.size) W X → Below W0.heap.size W0 X) := Lib.hid fun X hX => h0W.trans (hX.below (by rintro i (hi | rfl); exact Nat.le_trans hwr (HS2'.out i hi); omega) h0W.size)
        obtain ⟨mm, hmm⟩ : ∃ mm, mm = min many (L.length : Int) := ⟨_, rfl⟩
        rw [← hmm] at hc
        have HWW := Lib.hid (And.intro hD (And.intro hKD (And.intro hc (And.intro hT hbx))))
        have HMN := Lib.hid hmm
        have HBD : Hid (ib < W.heap.size) := Lib.hid (by have := hB.size; omega)
        clear hD hKD hB hc hcW hT hbx h0W hmm
        go_upto_region 21 with fail
        go_wp2_with fail
        go_loopg [15] (behind.length + 1) (fun gg s15 wr => ∃ k : Nat, k ≤ behind.length ∧ behind.length - k ≤ gg ∧ s15 = .int .i64 k ∧ Aside (∃ now2 L2 es3 v2, PlayG wc W.heap.size wc.heap.size p2 r2 es2 (.slice A1 L.length c1) wr now2 L2 es3 v2 ∧ MovS (fun i => TSet p2 r2 es2 i ∨ i = wc.heap.size) W wr))
        case atStart => exact ⟨0, by omega, by omega, rfl, _, _, _, _, hC, MovS.refl _ _⟩
        case round =>
          obtain ⟨k, hk, hgg, rfl, HP⟩ := hrel
          by_cases hlt : k < behind.length
          · have hltz : (k : Int) < (behind.length : Int) := by omega
            have hgk : behind[k]? = some behind[k] := List.getElem?_eq_getElem hlt
            generalize behind[k] = a at hgk
            obtain ⟨now2, L2, es3, v2, hpl, hmv⟩ := HP.out
            have hbw := HBM.out _ hmv
            obtain ⟨A9, c9, rfl⟩ := hpl.st.two.sl.slice
            obtain ⟨g0, g1, f0, f1⟩ := cells2 hpl.box
            have hqz := (Array.getElem?_eq_some_iff.1 hpl.box).1
            obtain ⟨N', hN⟩ : ∃ N', N' = (doL now2 L2 a).1 := ⟨_, rfl⟩
            obtain ⟨L', hL⟩ : ∃ L', L' = (doL now2 L2 a).2 := ⟨_, rfl⟩
            have HDO : Hid (∀ X, Below wr.heap.size wr X → Calls Try.prog 18 #[.pointer (some ⟨p2, 0, none⟩), .agg #[.int .i64 now2, .slice A9 L2.length c9], .agg #[.int .i64 a.kind, .string a.name, .int .i64 a.n]] X fun e w' => ∃ u es', e = .returned (.tuple #[.agg #[.int .i64 N', u], .bool true]) ∧
                w'.heap[wc.heap.size]? = some (.cells #[.int .i64 now2, .slice A9 L2.length c9] 47 (0, 0)) ∧ (∃ A n c, u = .slice A n c) ∧
                PlayG wc W.heap.size wc.heap.size p2 r2 es2 (.slice A1 L.length c1) ((w'.setCell ⟨wc.heap.size, 0, none⟩ (.int .i64 N')).setCell ⟨wc.heap.size, 1, none⟩ u) N' L' es' u ∧ MovS (fun i => TSet p2 r2 es2 i ∨ i = wc.heap.size) W ((w'.setCell ⟨wc.heap.size, 0, none⟩ (.int .i64 N')).setCell ⟨wc.heap.size, 1, none⟩ u)) := Lib.hid fun X hX => by
              rw [hN, hL]
              refine (playG_does a H2.out (Nat.le_refl _) hcB hmv.size hpl X hX).mono ?_
              rintro e w' ⟨u, es', he, hx, hs, hp, hm⟩
              exact ⟨u, es', he, hx, hs, hp, hmv.trans hm fun i hi hs => hs.elim .inl fun hs => hs.elim .inr fun hs => by omega⟩
            rcases HS2.out.below hbw with ⟨h1, h2⟩ | ⟨b, o, c', h1, _, _, hrow⟩
            · subst h2; simp at hlt
            · simp only [Value.slice.injEq] at h1
              obtain ⟨rfl, -, rfl⟩ := h1
              obtain ⟨c0, c1', c2⟩ := ac_row hrow hgk
              clear hrow hgk hbw hpl hN hL hqz hmv
              go_upto_region 24 with fail
              refine wp_region_noPanic ?_
              refine wp_region_till 6 (S := (fun w' => (w'.cell? ⟨wc.heap.size, 0, none⟩ = some (.int .i64 now2) ∧ w'.cell? ⟨wc.heap.size, 1, none⟩ = some (.slice A9 L2.length c9)) ∧ w'.cell? ⟨b, o + k * 3, none⟩ = some (.int .i64 a.kind) ∧ w'.cell? ⟨b, o + k * 3 + 1, none⟩ = some (.string a.name) ∧ w'.cell? ⟨b, o + k * 3 + 2, none⟩ = some (.int .i64 a.n))) (by kernel_rfl) ⟨⟨g0, g1⟩, c0, c1', c2⟩ (fun hHeld => ?_)
              clear g0 g1 f0 f1 c0 c1' c2
              refine till_yes (i := 0) (v := ?_) rfl (by kernel_rfl) (by kernel_rfl) (by kernel_rfl) (by kernel_rfl) (by kernel_rfl) (fun _ _ _ h => h) (by kernel_rfl) (by assumption) ?_ ?_
              rotate_left 1
              · (intro w hSw; (try dsimp only at hSw); go_simp; try with_reducible rfl)
              try simp only [Act.put, List.setIfInBounds_toArray, List.set_cons_zero, List.set_cons_succ]

              refine till_yes (i := 1) (v := ?_) rfl (by kernel_rfl) (by kernel_rfl) (by kernel_rfl) (by kernel_rfl) (by kernel_rfl) (fun _ _ _ h => h) (by kernel_rfl) (by assumption) ?_ ?_
              rotate_left 1
              · (intro w hSw; (try dsimp only at hSw); go_simp; try with_reducible rfl)
              try simp only [Act.put, List.setIfInBounds_toArray, List.set_cons_zero, List.set_cons_succ]

              refine till_yes (i := 2) (v := ?_) rfl (by kernel_rfl) (by kernel_rfl) (by kernel_rfl) (by kernel_rfl) (by kernel_rfl) (fun _ _ _ h => h) (by kernel_rfl) (by assumption) ?_ ?_
              rotate_left 1
              · (intro w hSw; (try dsimp only at hSw); go_simp; try with_reducible rfl)
              try simp only [Act.put, List.setIfInBounds_toArray, List.set_cons_zero, List.set_cons_succ]

              refine till_yes (i := 3) (v := ?_) rfl (by kernel_rfl) (by kernel_rfl) (by kernel_rfl) (by kernel_rfl) (by kernel_rfl) (fun _ _ _ h => h) (by kernel_rfl) (by assumption) ?_ ?_
              rotate_left 1
              · (intro w hSw; (try dsimp only at hSw); go_simp; try with_reducible rfl)
              try simp only [Act.put, List.setIfInBounds_toArray, List.set_cons_zero, List.set_cons_succ]

              refine till_yes (i := 4) (v := ?_) rfl (by kernel_rfl) (by kernel_rfl) (by kernel_rfl) (by kernel_rfl) (by kernel_rfl) (fun _ _ _ h => h) (by kernel_rfl) (by assumption) ?_ ?_
              rotate_left 1
              · (intro w hSw; (try dsimp only at hSw); go_simp; try with_reducible rfl)
              try simp only [Act.put, List.setIfInBounds_toArray, List.set_cons_zero, List.set_cons_succ]

              refine till_yes (i := 5) (v := ?_) rfl (by kernel_rfl) (by kernel_rfl) (by kernel_rfl) (by kernel_rfl) (by kernel_rfl) (fun _ _ _ h => h) (by kernel_rfl) (by assumption) ?_ ?_
              rotate_left 1
              · (intro w hSw; (try dsimp only at hSw); go_simp; try with_reducible rfl)
              try simp only [Act.put, List.setIfInBounds_toArray, List.set_cons_zero, List.set_cons_succ]

              clear hHeld
              refine till_late (i := 6) rfl (by decide) (by kernel_rfl) (fun K' hK => ?_)
              go_simp
              refine (HDO.out _ (bl_drew (Below.refl _ _))).mono ?_
              rintro e w4 ⟨u, es', rfl, hb4, ⟨A5, n5, c5, rfl⟩, hp4, hm4⟩
              obtain ⟨d0, d1, d2, d3⟩ := cells2 hb4
              have HP4 := Lib.hid hp4
              have HM4 := Lib.hid hm4
              clear hp4 hb4 hm4
              go_simp
              refine hK.out _ _ ?_
              clear hK K'
              try simp only [Act.put, List.setIfInBounds_toArray, List.set_cons_zero, List.set_cons_succ]
              refine till_late (i := 7) rfl (by decide) (by kernel_rfl) (fun K' hK => ?_)
              go_simp
              refine hK.out _ _ ?_
              clear hK K'
              try simp only [Act.put, List.setIfInBounds_toArray, List.set_cons_zero, List.set_cons_succ]
              refine till_pair (i := 8) (j := 9) rfl rfl (by decide) (by decide) (by kernel_rfl) (fun K' hK => ?_) (fun K' hK => ?_)
              · go_simp
                refine hK.out _ _ ?_
                clear hK K'
                try simp only [Act.put, List.setIfInBounds_toArray, List.set_cons_zero, List.set_cons_succ]
                refine till_pair (i := 9) (j := 10) rfl rfl (by decide) (by decide) (by kernel_rfl) (fun K' hK => ?_) (fun K' hK => ?_)
                · go_simp
                  refine hK.out _ _ ?_
                  clear hK K'
                  try simp only [Act.put, List.setIfInBounds_toArray, List.set_cons_zero, List.set_cons_succ]
                  refine till_late (i := 10) rfl (by decide) (by kernel_rfl) (fun K' hK => ?_)
                  go_simp
                  refine hK.out _ _ ?_
                  clear hK K'
                  try simp only [Act.put, List.setIfInBounds_toArray, List.set_cons_zero, List.set_cons_succ]
                  refine till_done (by kernel_rfl) ?_ _
                  refine NoPanic.normal ?_
                  go_wp2_with fail; go_roundg (behind.length - (k + 1)); (case measure => omega); (case rel => exact ⟨k + 1, by omega, by omega, by go_num, _, _, _, _, HP4.out, HM4.out⟩)
                · go_simp
                  refine hK.out _ _ ?_
                  clear hK K'
                  try simp only [Act.put, List.setIfInBounds_toArray, List.set_cons_zero, List.set_cons_succ]
                  refine till_late (i := 9) rfl (by decide) (by kernel_rfl) (fun K' hK => ?_)
                  go_simp
                  refine hK.out _ _ ?_
                  clear hK K'
                  try simp only [Act.put, List.setIfInBounds_toArray, List.set_cons_zero, List.set_cons_succ]
                  refine till_done (by kernel_rfl) ?_ _
                  refine NoPanic.normal ?_
                  go_wp2_with fail; go_roundg (behind.length - (k + 1)); (case measure => omega); (case rel => exact ⟨k + 1, by omega, by omega, by go_num, _, _, _, _, HP4.out, HM4.out⟩)
              · go_simp
                refine hK.out _ _ ?_
                clear hK K'
                try simp only [Act.put, List.setIfInBounds_toArray, List.set_cons_zero, List.set_cons_succ]
                refine till_late (i := 8) rfl (by decide) (by kernel_rfl) (fun K' hK => ?_)
                go_simp
                refine hK.out _ _ ?_
                clear hK K'
                try simp only [Act.put, List.setIfInBounds_toArray, List.set_cons_zero, List.set_cons_succ]
                refine till_late (i := 10) rfl (by decide) (by kernel_rfl) (fun K' hK => ?_)
                go_simp
                refine hK.out _ _ ?_
                clear hK K'
                try simp only [Act.put, List.setIfInBounds_toArray, List.set_cons_zero, List.set_cons_succ]
                refine till_done (by kernel_rfl) ?_ _
                refine NoPanic.normal ?_
                go_wp2_with fail; go_roundg (behind.length - (k + 1)); (case measure => omega); (case rel => exact ⟨k + 1, by omega, by omega, by go_num, _, _, _, _, HP4.out, HM4.out⟩)
          · obtain rfl : k = behind.length := by omega
            clear hlen1 hlen2 hgg
            have hltz : ¬ ((behind.length : Nat) : Int) < ((behind.length : Nat) : Int) := by omega
            obtain ⟨now2, L2, es3, v2, hpl, hmv⟩ := HP.out
            obtain ⟨A9, c9, rfl⟩ := hpl.st.two.sl.slice
            obtain ⟨hD, hKD, hc, hT, hbx⟩ := HWW.out
            have hlt2 := H2.out.tb.tab.lt
            have hibW := HBD.out
            have hTr : Two wr p r now L es (.slice A1 L.length c1) := hT.mov hmv (by
              rintro i hi (h9 | rfl)
              · have h8 := HPL.out.st.two.tb.tab.lt i hi
                have h7 := HS2'.out i h9
                omega
              · have h8 := HPL.out.st.two.tb.tab.lt _ hi
                omega) (by
              rintro j hj (h9 | rfl)
              · have h8 := (HPL.out.st.two.far j hj).2
                have h7 := HS2'.out j h9
                omega
              · have h8 := (HPL.out.st.two.far _ hj).2
                omega)
            have hbr := (hmv.block q (by omega) (by
              rintro (h9 | h9)
              · have h7 := HS2'.out q h9
                omega
              · omega)).trans hbx
            have hcr := hmv.cell hc (by
              rintro (h9 | h9)
              · have h7 := hlt2 ib h9
                omega
              · omega)
            have hKr := (hmv.block D (Array.getElem?_eq_some_iff.1 hKD).1 (by
              rintro (h9 | h9)
              · have h7 := hlt2 D h9
                omega
              · omega)).trans hKD
            have hbm := HBM.out _ hmv
            have h5 := boxed_blw HT56.out.1 hbm
            have h6 := boxed_blw HT56.out.2 hbm
            have HKR := Lib.hid hKr
            have HB6 := Lib.hid h6
            have HBWR := Lib.hid hbm
            have HWD : Hid (w.heap.size ≤ D) := Lib.hid (by have := HZ0.out; omega)
            obtain ⟨g0, g1, -, -⟩ := cells2 hbr
            obtain ⟨e0, e1, -, -⟩ := cells2 hpl.box
            have HSX : Hid (∀ X, Below wr.heap.size wr X → (fun w' : World => ((w'.cell? ⟨ib, 0, none⟩ = some (.int .i64 mm) ∧ w'.cell? ⟨w.heap.size, 0, none⟩ = some (.int .i64 many)) ∧ (w'.cell? ⟨q, 0, none⟩ = some (.int .i64 now) ∧ w'.cell? ⟨q, 1, none⟩ = some (.slice A1 L.length c1)) ∧ w'.cell? ⟨wc.heap.size, 0, none⟩ = some (.int .i64 now2) ∧ w'.cell? ⟨wc.heap.size, 1, none⟩ = some (.slice A9 L2.length c9))) X) := Lib.hid fun X hX => ⟨⟨bl_cell hX hcr, bl_cell hX h5.cell⟩, ⟨bl_cell hX g0, bl_cell hX g1⟩, bl_cell hX e0, bl_cell hX e1⟩
            have HSM1 : Hid (∀ X, Below wr.heap.size wr X → Calls Try.prog 19 #[.pointer (some ⟨p, 0, none⟩), .agg #[.int .i64 now, .slice A1 L.length c1]] X fun e w' => e = .returned (.bool true) ∧ Below X.heap.size X w') := Lib.hid fun X hX => same_any p r now L es _ X (hTr.tb.below hX) (hTr.sl.below hX)
            have HSM2 : Hid (∀ X, Below wr.heap.size wr X → Calls Try.prog 19 #[.pointer (some ⟨p2, 0, none⟩), .agg #[.int .i64 now2, .slice A9 L2.length c9]] X fun e w' => e = .returned (.bool true) ∧ Below X.heap.size X w') := Lib.hid fun X hX => same_any p2 r2 now2 L2 es3 _ X (hpl.st.two.tb.below hX) (hpl.st.two.sl.below hX)
            obtain ⟨dd, hdd⟩ : ∃ dd, dd = decide (L = L2) := ⟨_, rfl⟩
            have HST : Hid (∀ X, Below wr.heap.size wr X → Calls Try.prog 24 #[.pointer (some ⟨p, 0, none⟩), .pointer (some ⟨p2, 0, none⟩)] X fun e w' => e = .returned (.bool (decide (now = now2) && dd)) ∧ Below X.heap.size X w') := Lib.hid fun X hX => by rw [hdd]; exact same_tabs p r now L es p2 r2 now2 L2 es3 X (hTr.tb.below hX) (hpl.st.two.tb.below hX)
            have HTH : Hid (∀ X, Below wr.heap.size wr X → Calls Try.prog 25 #[.slice A1 L.length c1, .slice A9 L2.length c9] X fun e w' => e = .returned (.bool dd) ∧ Below X.heap.size X w') := Lib.hid fun X hX => by rw [hdd]; exact things_any _ _ L L2 X (hTr.sl.below hX) (hpl.st.two.sl.below hX)
            have HCY : Hid (∀ X, Below wr.heap.size wr X → Calls Try.prog 22 #[.pointer (some ⟨p, 0, none⟩)] X fun e w' => ∃ p2 r2 es2, e = .returned (.pointer (some ⟨p2, 0, none⟩)) ∧ (∀ i, TSet p2 r2 es2 i → X.heap.size ≤ i) ∧ Tb w' p2 r2 now L es2 ∧ Below X.heap.size X w') := Lib.hid fun X hX => copy_all p r now L es X (hTr.tb.below hX)
            have HS3 : Hid (∀ X p5 r5 es5, Below wr.heap.size wr X → Tb X p5 r5 now L es5 → Calls Try.prog 24 #[.pointer (some ⟨p, 0, none⟩), .pointer (some ⟨p5, 0, none⟩)] X fun e w' => e = .returned (.bool true) ∧ Below X.heap.size X w') := Lib.hid fun X p5 r5 es5 hX h5 => by
              have h9 := same_tabs p r now L es p5 r5 now L es5 X (hTr.tb.below hX) h5
              rw [show decide (now = now) = true from decide_eq_true rfl, show decide (L = L) = true from decide_eq_true rfl] at h9
              exact h9
            have hminq : (mm == min many (L.length : Int)) = true := by rw [HMN.out]; simp
            have hdb : (dd == dd) = true := by simp
            clear hpl hmv hD hKD hc hT hbx hTr hbr hcr hKr hbm h5 h6 g0 g1 e0 e1 hlt2 hibW hdd HP hC
            by_cases hn : now = now2
            · subst hn
              have hnn : (now == now) = true := by simp
              rw [show decide (now = now) = true from decide_eq_true rfl, Bool.true_and] at HST
              go_upto_region 25 with fail
              refine wp_region_noPanic ?_
              refine wp_region_till 44 (S := (fun w' => ((w'.cell? ⟨ib, 0, none⟩ = some (.int .i64 mm) ∧ w'.cell? ⟨w.heap.size, 0, none⟩ = some (.int .i64 many)) ∧ (w'.cell? ⟨q, 0, none⟩ = some (.int .i64 now) ∧ w'.cell? ⟨q, 1, none⟩ = some (.slice A1 L.length c1)) ∧ w'.cell? ⟨wc.heap.size, 0, none⟩ = some (.int .i64 now) ∧ w'.cell? ⟨wc.heap.size, 1, none⟩ = some (.slice A9 L2.length c9)))) (by kernel_rfl) (HSX.out _ (bl_drew (Below.refl _ _))) (fun hHeld => ?_)
              refine till_yes (i := 0) (v := ?_) rfl (late_direct (by kernel_rfl)) (by kernel_rfl) (by kernel_rfl) (by kernel_rfl) (by kernel_rfl) (fun _ _ _ h => h) (by kernel_rfl) (by assumption) ?_ ?_
              rotate_left 1
              · (intro w hSw; (try dsimp only at hSw); go_simp; try with_reducible rfl)
              try simp only [Act.put, List.setIfInBounds_toArray, List.set_cons_zero, List.set_cons_succ]

              refine till_yes (i := 1) (v := ?_) rfl (late_direct (by kernel_rfl)) (by kernel_rfl) (by kernel_rfl) (by kernel_rfl) (by kernel_rfl) (fun _ _ _ h => h) (by kernel_rfl) (by assumption) ?_ ?_
              rotate_left 1
              · (intro w hSw; (try dsimp only at hSw); go_simp; try with_reducible rfl)
              try simp only [Act.put, List.setIfInBounds_toArray, List.set_cons_zero, List.set_cons_succ]

              refine till_yes (i := 2) (v := ?_) rfl (late_direct (by kernel_rfl)) (by kernel_rfl) (by kernel_rfl) (by kernel_rfl) (by kernel_rfl) (fun _ _ _ h => h) (by kernel_rfl) (by assumption) ?_ ?_
              rotate_left 1
              · (intro w hSw; (try dsimp only at hSw); go_simp; try with_reducible rfl)
              try simp only [Act.put, List.setIfInBounds_toArray, List.set_cons_zero, List.set_cons_succ]

              refine till_yes (i := 3) (v := ?_) rfl (late_direct (by kernel_rfl)) (by kernel_rfl) (by kernel_rfl) (by kernel_rfl) (by kernel_rfl) (fun _ _ _ h => h) (by kernel_rfl) (by assumption) ?_ ?_
              rotate_left 1
              · (intro w hSw; (try dsimp only at hSw); go_simp; try with_reducible rfl)
              try simp only [Act.put, List.setIfInBounds_toArray, List.set_cons_zero, List.set_cons_succ]

              refine till_yes (i := 4) (v := ?_) rfl (late_direct (by kernel_rfl)) (by kernel_rfl) (by kernel_rfl) (by kernel_rfl) (by kernel_rfl) (fun _ _ _ h => h) (by kernel_rfl) (by assumption) ?_ ?_
              rotate_left 1
              · (intro w hSw; (try dsimp only at hSw); go_simp; try with_reducible rfl)
              try simp only [Act.put, List.setIfInBounds_toArray, List.set_cons_zero, List.set_cons_succ]

              refine till_yes (i := 5) (v := ?_) rfl (late_direct (by kernel_rfl)) (by kernel_rfl) (by kernel_rfl) (by kernel_rfl) (by kernel_rfl) (fun _ _ _ h => h) (by kernel_rfl) (by assumption) ?_ ?_
              rotate_left 1
              · (intro w hSw; (try dsimp only at hSw); go_simp; try with_reducible rfl)
              try simp only [Act.put, List.setIfInBounds_toArray, List.set_cons_zero, List.set_cons_succ]

              refine till_yes (i := 6) (v := ?_) rfl (late_direct (by kernel_rfl)) (by kernel_rfl) (by kernel_rfl) (by kernel_rfl) (by kernel_rfl) (fun _ _ _ h => h) (by kernel_rfl) (by assumption) ?_ ?_
              rotate_left 1
              · (intro w hSw; (try dsimp only at hSw); go_simp; try with_reducible rfl)
              try simp only [Act.put, List.setIfInBounds_toArray, List.set_cons_zero, List.set_cons_succ]

              refine till_yes (i := 7) (v := ?_) rfl (late_direct (by kernel_rfl)) (by kernel_rfl) (by kernel_rfl) (by kernel_rfl) (by kernel_rfl) (fun _ _ _ h => h) (by kernel_rfl) (by assumption) ?_ ?_
              rotate_left 1
              · (intro w hSw; (try dsimp only at hSw); go_simp; try with_reducible rfl)
              try simp only [Act.put, List.setIfInBounds_toArray, List.set_cons_zero, List.set_cons_succ]

              refine till_yes (i := 8) (v := ?_) rfl (late_direct (by kernel_rfl)) (by kernel_rfl) (by kernel_rfl) (by kernel_rfl) (by kernel_rfl) (fun _ _ _ h => h) (by kernel_rfl) (by assumption) ?_ ?_
              rotate_left 1
              · (intro w hSw; (try dsimp only at hSw); go_simp; try with_reducible rfl)
              try simp only [Act.put, List.setIfInBounds_toArray, List.set_cons_zero, List.set_cons_succ]

              refine till_yes (i := 9) (v := ?_) rfl (late_direct (by kernel_rfl)) (by kernel_rfl) (by kernel_rfl) (by kernel_rfl) (by kernel_rfl) (fun _ _ _ h => h) (by kernel_rfl) (by assumption) ?_ ?_
              rotate_left 1
              · (intro w hSw; (try dsimp only at hSw); go_simp; try with_reducible rfl)
              try simp only [Act.put, List.setIfInBounds_toArray, List.set_cons_zero, List.set_cons_succ]

              refine till_one (i := 10) rfl (by kernel_rfl) (fun K' hK => ?_)
              go_simp
              refine (HSM1.out _ (bl_drew (Below.refl _ _))).mono ?_
              rintro e x1 ⟨rfl, hx1⟩
              have HX1 : Hid (Below wr.heap.size wr x1) := Lib.hid (bl_then (bl_drew (Below.refl _ _)) hx1)
              clear hx1
              go_simp
              refine hK.out _ _ (HSX.out _ HX1.out) (fun hHeld2 => ?_)
              clear hK K' hHeld
              have hHeld := hHeld2
              clear hHeld2
              try simp only [Act.put, List.setIfInBounds_toArray, List.set_cons_zero, List.set_cons_succ]
              refine till_yes (i := 11) (v := ?_) rfl (late_direct (by kernel_rfl)) (by kernel_rfl) (by kernel_rfl) (by kernel_rfl) (by kernel_rfl) (fun _ _ _ h => h) (by kernel_rfl) (by assumption) ?_ ?_
              rotate_left 1
              · (intro w hSw; (try dsimp only at hSw); go_simp; try with_reducible rfl)
              try simp only [Act.put, List.setIfInBounds_toArray, List.set_cons_zero, List.set_cons_succ]

              refine till_yes (i := 12) (v := ?_) rfl (late_direct (by kernel_rfl)) (by kernel_rfl) (by kernel_rfl) (by kernel_rfl) (by kernel_rfl) (fun _ _ _ h => h) (by kernel_rfl) (by assumption) ?_ ?_
              rotate_left 1
              · (intro w hSw; (try dsimp only at hSw); go_simp; try with_reducible rfl)
              try simp only [Act.put, List.setIfInBounds_toArray, List.set_cons_zero, List.set_cons_succ]

              refine till_yes (i := 13) (v := ?_) rfl (late_direct (by kernel_rfl)) (by kernel_rfl) (by kernel_rfl) (by kernel_rfl) (by kernel_rfl) (fun _ _ _ h => h) (by kernel_rfl) (by assumption) ?_ ?_
              rotate_left 1
              · (intro w hSw; (try dsimp only at hSw); go_simp; try with_reducible rfl)
              try simp only [Act.put, List.setIfInBounds_toArray, List.set_cons_zero, List.set_cons_succ]

              refine till_yes (i := 14) (v := ?_) rfl (late_direct (by kernel_rfl)) (by kernel_rfl) (by kernel_rfl) (by kernel_rfl) (by kernel_rfl) (fun _ _ _ h => h) (by kernel_rfl) (by assumption) ?_ ?_
              rotate_left 1
              · (intro w hSw; (try dsimp only at hSw); go_simp; try with_reducible rfl)
              try simp only [Act.put, List.setIfInBounds_toArray, List.set_cons_zero, List.set_cons_succ]

              refine till_one (i := 15) rfl (by kernel_rfl) (fun K' hK => ?_)
              go_simp
              refine (HSM2.out _ HX1.out).mono ?_
              rintro e x2 ⟨rfl, hx2⟩
              have HX2 : Hid (Below wr.heap.size wr x2) := Lib.hid (bl_then HX1.out hx2)
              clear hx2
              go_simp
              refine hK.out _ _ (HSX.out _ HX2.out) (fun hHeld2 => ?_)
              clear hK K' hHeld
              have hHeld := hHeld2
              clear hHeld2
              try simp only [Act.put, List.setIfInBounds_toArray, List.set_cons_zero, List.set_cons_succ]
              refine till_yes (i := 16) (v := ?_) rfl (late_direct (by kernel_rfl)) (by kernel_rfl) (by kernel_rfl) (by kernel_rfl) (by kernel_rfl) (fun _ _ _ h => h) (by kernel_rfl) (by assumption) ?_ ?_
              rotate_left 1
              · (intro w hSw; (try dsimp only at hSw); go_simp; try with_reducible rfl)
              try simp only [Act.put, List.setIfInBounds_toArray, List.set_cons_zero, List.set_cons_succ]

              refine till_yes (i := 17) (v := ?_) rfl (late_direct (by kernel_rfl)) (by kernel_rfl) (by kernel_rfl) (by kernel_rfl) (by kernel_rfl) (fun _ _ _ h => h) (by kernel_rfl) (by assumption) ?_ ?_
              rotate_left 1
              · (intro w hSw; (try dsimp only at hSw); go_simp; try with_reducible rfl)
              try simp only [Act.put, List.setIfInBounds_toArray, List.set_cons_zero, List.set_cons_succ]

              refine till_yes (i := 18) (v := ?_) rfl (late_direct (by kernel_rfl)) (by kernel_rfl) (by kernel_rfl) (by kernel_rfl) (by kernel_rfl) (fun _ _ _ h => h) (by kernel_rfl) (by assumption) ?_ ?_
              rotate_left 1
              · (intro w hSw; (try dsimp only at hSw); go_simp; try with_reducible rfl)
              try simp only [Act.put, List.setIfInBounds_toArray, List.set_cons_zero, List.set_cons_succ]

              refine till_yes (i := 19) (v := ?_) rfl (late_direct (by kernel_rfl)) (by kernel_rfl) (by kernel_rfl) (by kernel_rfl) (by kernel_rfl) (fun _ _ _ h => h) (by kernel_rfl) (by assumption) ?_ ?_
              rotate_left 1
              · (intro w hSw; (try dsimp only at hSw); go_simp; try with_reducible rfl)
              try simp only [Act.put, List.setIfInBounds_toArray, List.set_cons_zero, List.set_cons_succ]

              refine till_yes (i := 21) (v := ?_) rfl (late_direct (by kernel_rfl)) (by kernel_rfl) (by kernel_rfl) (by kernel_rfl) (by kernel_rfl) (fun _ _ _ h => h) (by kernel_rfl) (by assumption) ?_ ?_
              rotate_left 1
              · (intro w hSw; (try dsimp only at hSw); go_simp; try with_reducible rfl)
              try simp only [Act.put, List.setIfInBounds_toArray, List.set_cons_zero, List.set_cons_succ]

              refine till_yes (i := 22) (v := ?_) rfl (late_direct (by kernel_rfl)) (by kernel_rfl) (by kernel_rfl) (by kernel_rfl) (by kernel_rfl) (fun _ _ _ h => h) (by kernel_rfl) (by assumption) ?_ ?_
              rotate_left 1
              · (intro w hSw; (try dsimp only at hSw); go_simp; try with_reducible rfl)
              try simp only [Act.put, List.setIfInBounds_toArray, List.set_cons_zero, List.set_cons_succ]

              refine till_yes (i := 23) (v := ?_) rfl (late_direct (by kernel_rfl)) (by kernel_rfl) (by kernel_rfl) (by kernel_rfl) (by kernel_rfl) (fun _ _ _ h => h) (by kernel_rfl) (by assumption) ?_ ?_
              rotate_left 1
              · (intro w hSw; (try dsimp only at hSw); go_simp; try with_reducible rfl)
              try simp only [Act.put, List.setIfInBounds_toArray, List.set_cons_zero, List.set_cons_succ]

              refine till_yes (i := 24) (v := ?_) rfl (late_direct (by kernel_rfl)) (by kernel_rfl) (by kernel_rfl) (by kernel_rfl) (by kernel_rfl) (fun _ _ _ h => h) (by kernel_rfl) (by assumption) ?_ ?_
              rotate_left 1
              · (intro w hSw; (try dsimp only at hSw); go_simp; try with_reducible rfl)
              try simp only [Act.put, List.setIfInBounds_toArray, List.set_cons_zero, List.set_cons_succ]

              refine till_yes (i := 25) (v := ?_) rfl (late_direct (by kernel_rfl)) (by kernel_rfl) (by kernel_rfl) (by kernel_rfl) (by kernel_rfl) (fun _ _ _ h => h) (by kernel_rfl) (by assumption) ?_ ?_
              rotate_left 1
              · (intro w hSw; (try dsimp only at hSw); go_simp; try with_reducible rfl)
              try simp only [Act.put, List.setIfInBounds_toArray, List.set_cons_zero, List.set_cons_succ]

              refine till_one (i := 20) rfl (by kernel_rfl) (fun K' hK => ?_)
              go_simp
              refine (HST.out _ HX2.out).mono ?_
              rintro e x3 ⟨rfl, hx3⟩
              have HX3 : Hid (Below wr.heap.size wr x3) := Lib.hid (bl_then HX2.out hx3)
              clear hx3
              go_simp
              refine hK.out _ _ (HSX.out _ HX3.out) (fun hHeld2 => ?_)
              clear hK K' hHeld
              have hHeld := hHeld2
              clear hHeld2
              try simp only [Act.put, List.setIfInBounds_toArray, List.set_cons_zero, List.set_cons_succ]
              refine till_yes (i := 26) (v := ?_) rfl (late_direct (by kernel_rfl)) (by kernel_rfl) (by kernel_rfl) (by kernel_rfl) (by kernel_rfl) (fun _ _ _ h => h) (by kernel_rfl) (by assumption) ?_ ?_
              rotate_left 1
              · (intro w hSw; (try dsimp only at hSw); go_simp; try with_reducible rfl)
              try simp only [Act.put, List.setIfInBounds_toArray, List.set_cons_zero, List.set_cons_succ]

              refine till_yes (i := 27) (v := ?_) rfl (late_direct (by kernel_rfl)) (by kernel_rfl) (by kernel_rfl) (by kernel_rfl) (by kernel_rfl) (fun _ _ _ h => h) (by kernel_rfl) (by assumption) ?_ ?_
              rotate_left 1
              · (intro w hSw; (try dsimp only at hSw); go_simp; try with_reducible rfl)
              try simp only [Act.put, List.setIfInBounds_toArray, List.set_cons_zero, List.set_cons_succ]

              refine till_yes (i := 28) (v := ?_) rfl (late_direct (by kernel_rfl)) (by kernel_rfl) (by kernel_rfl) (by kernel_rfl) (by kernel_rfl) (fun _ _ _ h => h) (by kernel_rfl) (by assumption) ?_ ?_
              rotate_left 1
              · (intro w hSw; (try dsimp only at hSw); go_simp; try with_reducible rfl)
              try simp only [Act.put, List.setIfInBounds_toArray, List.set_cons_zero, List.set_cons_succ]

              refine till_yes (i := 29) (v := ?_) rfl (late_direct (by kernel_rfl)) (by kernel_rfl) (by kernel_rfl) (by kernel_rfl) (by kernel_rfl) (fun _ _ _ h => h) (by kernel_rfl) (by assumption) ?_ ?_
              rotate_left 1
              · (intro w hSw; (try dsimp only at hSw); go_simp; try with_reducible rfl)
              try simp only [Act.put, List.setIfInBounds_toArray, List.set_cons_zero, List.set_cons_succ]

              refine till_yes (i := 30) (v := ?_) rfl (late_direct (by kernel_rfl)) (by kernel_rfl) (by kernel_rfl) (by kernel_rfl) (by kernel_rfl) (fun _ _ _ h => h) (by kernel_rfl) (by assumption) ?_ ?_
              rotate_left 1
              · (intro w hSw; (try dsimp only at hSw); go_simp; try with_reducible rfl)
              try simp only [Act.put, List.setIfInBounds_toArray, List.set_cons_zero, List.set_cons_succ]

              refine till_one (i := 31) rfl (by kernel_rfl) (fun K' hK => ?_)
              go_simp
              refine (HTH.out _ HX3.out).mono ?_
              rintro e x4 ⟨rfl, hx4⟩
              have HX4 : Hid (Below wr.heap.size wr x4) := Lib.hid (bl_then HX3.out hx4)
              clear hx4
              go_simp
              refine hK.out _ _ (HSX.out _ HX4.out) (fun hHeld2 => ?_)
              clear hK K' hHeld
              have hHeld := hHeld2
              clear hHeld2
              try simp only [Act.put, List.setIfInBounds_toArray, List.set_cons_zero, List.set_cons_succ]
              refine till_yes (i := 32) (v := ?_) rfl (late_direct (by kernel_rfl)) (by kernel_rfl) (by kernel_rfl) (by kernel_rfl) (by kernel_rfl) (fun _ _ _ h => h) (by kernel_rfl) (by assumption) ?_ ?_
              rotate_left 1
              · (intro w hSw; (try dsimp only at hSw); go_simp; try with_reducible rfl)
              try simp only [Act.put, List.setIfInBounds_toArray, List.set_cons_zero, List.set_cons_succ]

              refine till_yes (i := 33) (v := ?_) rfl (late_direct (by kernel_rfl)) (by kernel_rfl) (by kernel_rfl) (by kernel_rfl) (by kernel_rfl) (fun _ _ _ h => h) (by kernel_rfl) (by assumption) ?_ ?_
              rotate_left 1
              · (intro w hSw; (try dsimp only at hSw); go_simp; try with_reducible rfl)
              try simp only [Act.put, List.setIfInBounds_toArray, List.set_cons_zero, List.set_cons_succ]

              refine till_yes (i := 34) (v := ?_) rfl (late_direct (by kernel_rfl)) (by kernel_rfl) (by kernel_rfl) (by kernel_rfl) (by kernel_rfl) (fun _ _ _ h => h) (by kernel_rfl) (by assumption) ?_ ?_
              rotate_left 1
              · (intro w hSw; (try dsimp only at hSw); go_simp; try with_reducible rfl)
              try simp only [Act.put, List.setIfInBounds_toArray, List.set_cons_zero, List.set_cons_succ]

              refine till_yes (i := 35) (v := ?_) rfl (late_direct (by kernel_rfl)) (by kernel_rfl) (by kernel_rfl) (by kernel_rfl) (by kernel_rfl) (fun _ _ _ h => h) (by kernel_rfl) (by assumption) ?_ ?_
              rotate_left 1
              · (intro w hSw; (try dsimp only at hSw); go_simp; try with_reducible rfl)
              try simp only [Act.put, List.setIfInBounds_toArray, List.set_cons_zero, List.set_cons_succ]

              refine till_yes (i := 36) (v := ?_) rfl (late_direct (by kernel_rfl)) (by kernel_rfl) (by kernel_rfl) (by kernel_rfl) (by kernel_rfl) (fun _ _ _ h => h) (by kernel_rfl) (by assumption) ?_ ?_
              rotate_left 1
              · (intro w hSw; (try dsimp only at hSw); go_simp; try with_reducible rfl)
              try simp only [Act.put, List.setIfInBounds_toArray, List.set_cons_zero, List.set_cons_succ]

              refine till_yes (i := 37) (v := ?_) rfl (late_direct (by kernel_rfl)) (by kernel_rfl) (by kernel_rfl) (by kernel_rfl) (by kernel_rfl) (fun _ _ _ h => h) (by kernel_rfl) (by assumption) ?_ ?_
              rotate_left 1
              · (intro w hSw; (try dsimp only at hSw); go_simp; try with_reducible rfl)
              try simp only [Act.put, List.setIfInBounds_toArray, List.set_cons_zero, List.set_cons_succ]

              refine till_one (i := 38) rfl (by kernel_rfl) (fun K' hK => ?_)
              go_simp
              refine (HCY.out _ HX4.out).mono ?_
              rintro e x5 ⟨p5, r5, es5, rfl, -, ht5, hx5⟩
              have HX5 : Hid (Below wr.heap.size wr x5) := Lib.hid (bl_then HX4.out hx5)
              have HT5 := Lib.hid ht5
              clear hx5 ht5
              go_simp
              refine hK.out _ _ (HSX.out _ HX5.out) (fun hHeld2 => ?_)
              clear hK K' hHeld
              have hHeld := hHeld2
              clear hHeld2
              try simp only [Act.put, List.setIfInBounds_toArray, List.set_cons_zero, List.set_cons_succ]
              refine till_one (i := 39) rfl (by kernel_rfl) (fun K' hK => ?_)
              go_simp
              refine (HS3.out _ _ _ _ HX5.out HT5.out).mono ?_
              rintro e x6 ⟨rfl, hx6⟩
              have HX6 : Hid (Below wr.heap.size wr x6) := Lib.hid (bl_then HX5.out hx6)
              clear hx6
              go_simp
              refine hK.out _ _ (HSX.out _ HX6.out) (fun hHeld2 => ?_)
              clear hK K' hHeld
              have hHeld := hHeld2
              clear hHeld2
              try simp only [Act.put, List.setIfInBounds_toArray, List.set_cons_zero, List.set_cons_succ]
              refine till_yes (i := 40) (v := ?_) rfl (late_direct (by kernel_rfl)) (by kernel_rfl) (by kernel_rfl) (by kernel_rfl) (by kernel_rfl) (fun _ _ _ h => h) (by kernel_rfl) (by assumption) ?_ ?_
              rotate_left 1
              · (intro w hSw; (try dsimp only at hSw); go_simp; try with_reducible rfl)
              try simp only [Act.put, List.setIfInBounds_toArray, List.set_cons_zero, List.set_cons_succ]

              refine till_yes (i := 41) (v := ?_) rfl (late_direct (by kernel_rfl)) (by kernel_rfl) (by kernel_rfl) (by kernel_rfl) (by kernel_rfl) (fun _ _ _ h => h) (by kernel_rfl) (by assumption) ?_ ?_
              rotate_left 1
              · (intro w hSw; (try dsimp only at hSw); go_simp; try with_reducible rfl)
              try simp only [Act.put, List.setIfInBounds_toArray, List.set_cons_zero, List.set_cons_succ]

              refine till_one (i := 42) rfl (by kernel_rfl) (fun K' hK => ?_)
              go_simp
              refine (known_any _).mono ?_
              rintro e x7 ⟨rfl, hx7⟩
              have HX7 : Hid (Below wr.heap.size wr x7) := Lib.hid (bl_then HX6.out hx7)
              clear hx7
              go_simp
              refine hK.out _ _ (HSX.out _ HX7.out) (fun hHeld2 => ?_)
              clear hK K' hHeld
              have hHeld := hHeld2
              clear hHeld2
              try simp only [Act.put, List.setIfInBounds_toArray, List.set_cons_zero, List.set_cons_succ]
              refine till_yes (i := 43) (v := ?_) rfl (late_direct (by kernel_rfl)) (by kernel_rfl) (by kernel_rfl) (by kernel_rfl) (by kernel_rfl) (fun _ _ _ h => h) (by kernel_rfl) (by assumption) ?_ ?_
              rotate_left 1
              · (intro w hSw; (try dsimp only at hSw); go_simp; try with_reducible rfl)
              try simp only [Act.put, List.setIfInBounds_toArray, List.set_cons_zero, List.set_cons_succ]

              have t6c := bl_cell HX7.out HB6.out.cell
              have t6f := (boxed_blw HB6.out HX7.out).frozen
              refine till_late (i := 44) rfl (by decide) (by kernel_rfl) (fun K' hK => ?_)
              go_simp
              refine hK.out _ _ ?_
              clear hK K'
              refine till_done (by kernel_rfl) ?_ _
              refine NoPanic.normal ?_
              clear t6c t6f hHeld
              go_wp2_with fail
              exact leave_one Try.results7 rfl HKR.out (HBW.out.trans (HBWR.out.mono HBW.out.size)) HWD.out HB6.out.cell (Below.refl _ _) HX7.out (by show w.heap.size ≤ w.heap.size + 1; omega)
            · have hnn : (now == now2) = false := beq_eq_false_iff_ne.2 hn
              rw [decide_eq_false hn, Bool.false_and] at HST
              clear hn
              go_upto_region 25 with fail
              refine wp_region_noPanic ?_
              refine wp_region_till 44 (S := (fun w' => ((w'.cell? ⟨ib, 0, none⟩ = some (.int .i64 mm) ∧ w'.cell? ⟨w.heap.size, 0, none⟩ = some (.int .i64 many)) ∧ (w'.cell? ⟨q, 0, none⟩ = some (.int .i64 now) ∧ w'.cell? ⟨q, 1, none⟩ = some (.slice A1 L.length c1)) ∧ w'.cell? ⟨wc.heap.size, 0, none⟩ = some (.int .i64 now2) ∧ w'.cell? ⟨wc.heap.size, 1, none⟩ = some (.slice A9 L2.length c9)))) (by kernel_rfl) (HSX.out _ (bl_drew (Below.refl _ _))) (fun hHeld => ?_)
              refine till_yes (i := 0) (v := ?_) rfl (late_direct (by kernel_rfl)) (by kernel_rfl) (by kernel_rfl) (by kernel_rfl) (by kernel_rfl) (fun _ _ _ h => h) (by kernel_rfl) (by assumption) ?_ ?_
              rotate_left 1
              · (intro w hSw; (try dsimp only at hSw); go_simp; try with_reducible rfl)
              try simp only [Act.put, List.setIfInBounds_toArray, List.set_cons_zero, List.set_cons_succ]

              refine till_yes (i := 1) (v := ?_) rfl (late_direct (by kernel_rfl)) (by kernel_rfl) (by kernel_rfl) (by kernel_rfl) (by kernel_rfl) (fun _ _ _ h => h) (by kernel_rfl) (by assumption) ?_ ?_
              rotate_left 1
              · (intro w hSw; (try dsimp only at hSw); go_simp; try with_reducible rfl)
              try simp only [Act.put, List.setIfInBounds_toArray, List.set_cons_zero, List.set_cons_succ]

              refine till_yes (i := 2) (v := ?_) rfl (late_direct (by kernel_rfl)) (by kernel_rfl) (by kernel_rfl) (by kernel_rfl) (by kernel_rfl) (fun _ _ _ h => h) (by kernel_rfl) (by assumption) ?_ ?_
              rotate_left 1
              · (intro w hSw; (try dsimp only at hSw); go_simp; try with_reducible rfl)
              try simp only [Act.put, List.setIfInBounds_toArray, List.set_cons_zero, List.set_cons_succ]

              refine till_yes (i := 3) (v := ?_) rfl (late_direct (by kernel_rfl)) (by kernel_rfl) (by kernel_rfl) (by kernel_rfl) (by kernel_rfl) (fun _ _ _ h => h) (by kernel_rfl) (by assumption) ?_ ?_
              rotate_left 1
              · (intro w hSw; (try dsimp only at hSw); go_simp; try with_reducible rfl)
              try simp only [Act.put, List.setIfInBounds_toArray, List.set_cons_zero, List.set_cons_succ]

              refine till_yes (i := 4) (v := ?_) rfl (late_direct (by kernel_rfl)) (by kernel_rfl) (by kernel_rfl) (by kernel_rfl) (by kernel_rfl) (fun _ _ _ h => h) (by kernel_rfl) (by assumption) ?_ ?_
              rotate_left 1
              · (intro w hSw; (try dsimp only at hSw); go_simp; try with_reducible rfl)
              try simp only [Act.put, List.setIfInBounds_toArray, List.set_cons_zero, List.set_cons_succ]

              refine till_yes (i := 5) (v := ?_) rfl (late_direct (by kernel_rfl)) (by kernel_rfl) (by kernel_rfl) (by kernel_rfl) (by kernel_rfl) (fun _ _ _ h => h) (by kernel_rfl) (by assumption) ?_ ?_
              rotate_left 1
              · (intro w hSw; (try dsimp only at hSw); go_simp; try with_reducible rfl)
              try simp only [Act.put, List.setIfInBounds_toArray, List.set_cons_zero, List.set_cons_succ]

              refine till_yes (i := 6) (v := ?_) rfl (late_direct (by kernel_rfl)) (by kernel_rfl) (by kernel_rfl) (by kernel_rfl) (by kernel_rfl) (fun _ _ _ h => h) (by kernel_rfl) (by assumption) ?_ ?_
              rotate_left 1
              · (intro w hSw; (try dsimp only at hSw); go_simp; try with_reducible rfl)
              try simp only [Act.put, List.setIfInBounds_toArray, List.set_cons_zero, List.set_cons_succ]

              refine till_yes (i := 7) (v := ?_) rfl (late_direct (by kernel_rfl)) (by kernel_rfl) (by kernel_rfl) (by kernel_rfl) (by kernel_rfl) (fun _ _ _ h => h) (by kernel_rfl) (by assumption) ?_ ?_
              rotate_left 1
              · (intro w hSw; (try dsimp only at hSw); go_simp; try with_reducible rfl)
              try simp only [Act.put, List.setIfInBounds_toArray, List.set_cons_zero, List.set_cons_succ]

              refine till_yes (i := 8) (v := ?_) rfl (late_direct (by kernel_rfl)) (by kernel_rfl) (by kernel_rfl) (by kernel_rfl) (by kernel_rfl) (fun _ _ _ h => h) (by kernel_rfl) (by assumption) ?_ ?_
              rotate_left 1
              · (intro w hSw; (try dsimp only at hSw); go_simp; try with_reducible rfl)
              try simp only [Act.put, List.setIfInBounds_toArray, List.set_cons_zero, List.set_cons_succ]

              refine till_yes (i := 9) (v := ?_) rfl (late_direct (by kernel_rfl)) (by kernel_rfl) (by kernel_rfl) (by kernel_rfl) (by kernel_rfl) (fun _ _ _ h => h) (by kernel_rfl) (by assumption) ?_ ?_
              rotate_left 1
              · (intro w hSw; (try dsimp only at hSw); go_simp; try with_reducible rfl)
              try simp only [Act.put, List.setIfInBounds_toArray, List.set_cons_zero, List.set_cons_succ]

              refine till_one (i := 10) rfl (by kernel_rfl) (fun K' hK => ?_)
              go_simp
              refine (HSM1.out _ (bl_drew (Below.refl _ _))).mono ?_
              rintro e x1 ⟨rfl, hx1⟩
              have HX1 : Hid (Below wr.heap.size wr x1) := Lib.hid (bl_then (bl_drew (Below.refl _ _)) hx1)
              clear hx1
              go_simp
              refine hK.out _ _ (HSX.out _ HX1.out) (fun hHeld2 => ?_)
              clear hK K' hHeld
              have hHeld := hHeld2
              clear hHeld2
              try simp only [Act.put, List.setIfInBounds_toArray, List.set_cons_zero, List.set_cons_succ]
              refine till_yes (i := 11) (v := ?_) rfl (late_direct (by kernel_rfl)) (by kernel_rfl) (by kernel_rfl) (by kernel_rfl) (by kernel_rfl) (fun _ _ _ h => h) (by kernel_rfl) (by assumption) ?_ ?_
              rotate_left 1
              · (intro w hSw; (try dsimp only at hSw); go_simp; try with_reducible rfl)
              try simp only [Act.put, List.setIfInBounds_toArray, List.set_cons_zero, List.set_cons_succ]

              refine till_yes (i := 12) (v := ?_) rfl (late_direct (by kernel_rfl)) (by kernel_rfl) (by kernel_rfl) (by kernel_rfl) (by kernel_rfl) (fun _ _ _ h => h) (by kernel_rfl) (by assumption) ?_ ?_
              rotate_left 1
              · (intro w hSw; (try dsimp only at hSw); go_simp; try with_reducible rfl)
              try simp only [Act.put, List.setIfInBounds_toArray, List.set_cons_zero, List.set_cons_succ]

              refine till_yes (i := 13) (v := ?_) rfl (late_direct (by kernel_rfl)) (by kernel_rfl) (by kernel_rfl) (by kernel_rfl) (by kernel_rfl) (fun _ _ _ h => h) (by kernel_rfl) (by assumption) ?_ ?_
              rotate_left 1
              · (intro w hSw; (try dsimp only at hSw); go_simp; try with_reducible rfl)
              try simp only [Act.put, List.setIfInBounds_toArray, List.set_cons_zero, List.set_cons_succ]

              refine till_yes (i := 14) (v := ?_) rfl (late_direct (by kernel_rfl)) (by kernel_rfl) (by kernel_rfl) (by kernel_rfl) (by kernel_rfl) (fun _ _ _ h => h) (by kernel_rfl) (by assumption) ?_ ?_
              rotate_left 1
              · (intro w hSw; (try dsimp only at hSw); go_simp; try with_reducible rfl)
              try simp only [Act.put, List.setIfInBounds_toArray, List.set_cons_zero, List.set_cons_succ]

              refine till_one (i := 15) rfl (by kernel_rfl) (fun K' hK => ?_)
              go_simp
              refine (HSM2.out _ HX1.out).mono ?_
              rintro e x2 ⟨rfl, hx2⟩
              have HX2 : Hid (Below wr.heap.size wr x2) := Lib.hid (bl_then HX1.out hx2)
              clear hx2
              go_simp
              refine hK.out _ _ (HSX.out _ HX2.out) (fun hHeld2 => ?_)
              clear hK K' hHeld
              have hHeld := hHeld2
              clear hHeld2
              try simp only [Act.put, List.setIfInBounds_toArray, List.set_cons_zero, List.set_cons_succ]
              refine till_yes (i := 16) (v := ?_) rfl (late_direct (by kernel_rfl)) (by kernel_rfl) (by kernel_rfl) (by kernel_rfl) (by kernel_rfl) (fun _ _ _ h => h) (by kernel_rfl) (by assumption) ?_ ?_
              rotate_left 1
              · (intro w hSw; (try dsimp only at hSw); go_simp; try with_reducible rfl)
              try simp only [Act.put, List.setIfInBounds_toArray, List.set_cons_zero, List.set_cons_succ]

              refine till_yes (i := 17) (v := ?_) rfl (late_direct (by kernel_rfl)) (by kernel_rfl) (by kernel_rfl) (by kernel_rfl) (by kernel_rfl) (fun _ _ _ h => h) (by kernel_rfl) (by assumption) ?_ ?_
              rotate_left 1
              · (intro w hSw; (try dsimp only at hSw); go_simp; try with_reducible rfl)
              try simp only [Act.put, List.setIfInBounds_toArray, List.set_cons_zero, List.set_cons_succ]

              refine till_yes (i := 18) (v := ?_) rfl (late_direct (by kernel_rfl)) (by kernel_rfl) (by kernel_rfl) (by kernel_rfl) (by kernel_rfl) (fun _ _ _ h => h) (by kernel_rfl) (by assumption) ?_ ?_
              rotate_left 1
              · (intro w hSw; (try dsimp only at hSw); go_simp; try with_reducible rfl)
              try simp only [Act.put, List.setIfInBounds_toArray, List.set_cons_zero, List.set_cons_succ]

              refine till_yes (i := 19) (v := ?_) rfl (late_direct (by kernel_rfl)) (by kernel_rfl) (by kernel_rfl) (by kernel_rfl) (by kernel_rfl) (fun _ _ _ h => h) (by kernel_rfl) (by assumption) ?_ ?_
              rotate_left 1
              · (intro w hSw; (try dsimp only at hSw); go_simp; try with_reducible rfl)
              try simp only [Act.put, List.setIfInBounds_toArray, List.set_cons_zero, List.set_cons_succ]

              refine till_yes (i := 21) (v := ?_) rfl (late_direct (by kernel_rfl)) (by kernel_rfl) (by kernel_rfl) (by kernel_rfl) (by kernel_rfl) (fun _ _ _ h => h) (by kernel_rfl) (by assumption) ?_ ?_
              rotate_left 1
              · (intro w hSw; (try dsimp only at hSw); go_simp; try with_reducible rfl)
              try simp only [Act.put, List.setIfInBounds_toArray, List.set_cons_zero, List.set_cons_succ]

              refine till_yes (i := 22) (v := ?_) rfl (late_direct (by kernel_rfl)) (by kernel_rfl) (by kernel_rfl) (by kernel_rfl) (by kernel_rfl) (fun _ _ _ h => h) (by kernel_rfl) (by assumption) ?_ ?_
              rotate_left 1
              · (intro w hSw; (try dsimp only at hSw); go_simp; try with_reducible rfl)
              try simp only [Act.put, List.setIfInBounds_toArray, List.set_cons_zero, List.set_cons_succ]

              refine till_yes (i := 23) (v := ?_) rfl (late_direct (by kernel_rfl)) (by kernel_rfl) (by kernel_rfl) (by kernel_rfl) (by kernel_rfl) (fun _ _ _ h => h) (by kernel_rfl) (by assumption) ?_ ?_
              rotate_left 1
              · (intro w hSw; (try dsimp only at hSw); go_simp; try with_reducible rfl)
              try simp only [Act.put, List.setIfInBounds_toArray, List.set_cons_zero, List.set_cons_succ]

              refine till_yes (i := 24) (v := ?_) rfl (late_direct (by kernel_rfl)) (by kernel_rfl) (by kernel_rfl) (by kernel_rfl) (by kernel_rfl) (fun _ _ _ h => h) (by kernel_rfl) (by assumption) ?_ ?_
              rotate_left 1
              · (intro w hSw; (try dsimp only at hSw); go_simp; try with_reducible rfl)
              try simp only [Act.put, List.setIfInBounds_toArray, List.set_cons_zero, List.set_cons_succ]

              refine till_yes (i := 25) (v := ?_) rfl (late_direct (by kernel_rfl)) (by kernel_rfl) (by kernel_rfl) (by kernel_rfl) (by kernel_rfl) (fun _ _ _ h => h) (by kernel_rfl) (by assumption) ?_ ?_
              rotate_left 1
              · (intro w hSw; (try dsimp only at hSw); go_simp; try with_reducible rfl)
              try simp only [Act.put, List.setIfInBounds_toArray, List.set_cons_zero, List.set_cons_succ]

              refine till_one (i := 20) rfl (by kernel_rfl) (fun K' hK => ?_)
              go_simp
              refine (HST.out _ HX2.out).mono ?_
              rintro e x3 ⟨rfl, hx3⟩
              have HX3 : Hid (Below wr.heap.size wr x3) := Lib.hid (bl_then HX2.out hx3)
              clear hx3
              go_simp
              refine hK.out _ _ (HSX.out _ HX3.out) (fun hHeld2 => ?_)
              clear hK K' hHeld
              have hHeld := hHeld2
              clear hHeld2
              try simp only [Act.put, List.setIfInBounds_toArray, List.set_cons_zero, List.set_cons_succ]
              refine till_yes (i := 26) (v := ?_) rfl (late_direct (by kernel_rfl)) (by kernel_rfl) (by kernel_rfl) (by kernel_rfl) (by kernel_rfl) (fun _ _ _ h => h) (by kernel_rfl) (by assumption) ?_ ?_
              rotate_left 1
              · (intro w hSw; (try dsimp only at hSw); go_simp; try with_reducible rfl)
              try simp only [Act.put, List.setIfInBounds_toArray, List.set_cons_zero, List.set_cons_succ]

              refine till_no (i := 27) rfl (late_direct (by kernel_rfl)) (by kernel_rfl) (by kernel_rfl) (by kernel_rfl) (by kernel_rfl) (fun _ _ _ h => h) (by rfl) (by assumption) ?_
              try simp only [Act.put, List.setIfInBounds_toArray, List.set_cons_zero, List.set_cons_succ]

              refine till_no (i := 28) rfl (late_direct (by kernel_rfl)) (by kernel_rfl) (by kernel_rfl) (by kernel_rfl) (by kernel_rfl) (fun _ _ _ h => h) (by rfl) (by assumption) ?_
              try simp only [Act.put, List.setIfInBounds_toArray, List.set_cons_zero, List.set_cons_succ]

              refine till_no (i := 29) rfl (late_direct (by kernel_rfl)) (by kernel_rfl) (by kernel_rfl) (by kernel_rfl) (by kernel_rfl) (fun _ _ _ h => h) (by rfl) (by assumption) ?_
              try simp only [Act.put, List.setIfInBounds_toArray, List.set_cons_zero, List.set_cons_succ]

              refine till_no (i := 30) rfl (late_direct (by kernel_rfl)) (by kernel_rfl) (by kernel_rfl) (by kernel_rfl) (by kernel_rfl) (fun _ _ _ h => h) (by rfl) (by assumption) ?_
              try simp only [Act.put, List.setIfInBounds_toArray, List.set_cons_zero, List.set_cons_succ]

              refine till_no (i := 31) rfl (late_direct (by kernel_rfl)) (by kernel_rfl) (by kernel_rfl) (by kernel_rfl) (by kernel_rfl) (fun _ _ _ h => h) (by rfl) (by assumption) ?_
              try simp only [Act.put, List.setIfInBounds_toArray, List.set_cons_zero, List.set_cons_succ]

              refine till_yes (i := 32) (v := ?_) rfl (late_direct (by kernel_rfl)) (by kernel_rfl) (by kernel_rfl) (by kernel_rfl) (by kernel_rfl) (fun _ _ _ h => h) (by kernel_rfl) (by assumption) ?_ ?_
              rotate_left 1
              · (intro w hSw; (try dsimp only at hSw); go_simp; try with_reducible rfl)
              try simp only [Act.put, List.setIfInBounds_toArray, List.set_cons_zero, List.set_cons_succ]

              refine till_yes (i := 33) (v := ?_) rfl (late_direct (by kernel_rfl)) (by kernel_rfl) (by kernel_rfl) (by kernel_rfl) (by kernel_rfl) (fun _ _ _ h => h) (by kernel_rfl) (by assumption) ?_ ?_
              rotate_left 1
              · (intro w hSw; (try dsimp only at hSw); go_simp; try with_reducible rfl)
              try simp only [Act.put, List.setIfInBounds_toArray, List.set_cons_zero, List.set_cons_succ]

              refine till_yes (i := 34) (v := ?_) rfl (late_direct (by kernel_rfl)) (by kernel_rfl) (by kernel_rfl) (by kernel_rfl) (by kernel_rfl) (fun _ _ _ h => h) (by kernel_rfl) (by assumption) ?_ ?_
              rotate_left 1
              · (intro w hSw; (try dsimp only at hSw); go_simp; try with_reducible rfl)
              try simp only [Act.put, List.setIfInBounds_toArray, List.set_cons_zero, List.set_cons_succ]

              refine till_yes (i := 35) (v := ?_) rfl (late_direct (by kernel_rfl)) (by kernel_rfl) (by kernel_rfl) (by kernel_rfl) (by kernel_rfl) (fun _ _ _ h => h) (by kernel_rfl) (by assumption) ?_ ?_
              rotate_left 1
              · (intro w hSw; (try dsimp only at hSw); go_simp; try with_reducible rfl)
              try simp only [Act.put, List.setIfInBounds_toArray, List.set_cons_zero, List.set_cons_succ]

              refine till_yes (i := 36) (v := ?_) rfl (late_direct (by kernel_rfl)) (by kernel_rfl) (by kernel_rfl) (by kernel_rfl) (by kernel_rfl) (fun _ _ _ h => h) (by kernel_rfl) (by assumption) ?_ ?_
              rotate_left 1
              · (intro w hSw; (try dsimp only at hSw); go_simp; try with_reducible rfl)
              try simp only [Act.put, List.setIfInBounds_toArray, List.set_cons_zero, List.set_cons_succ]

              refine till_yes (i := 37) (v := ?_) rfl (late_direct (by kernel_rfl)) (by kernel_rfl) (by kernel_rfl) (by kernel_rfl) (by kernel_rfl) (fun _ _ _ h => h) (by kernel_rfl) (by assumption) ?_ ?_
              rotate_left 1
              · (intro w hSw; (try dsimp only at hSw); go_simp; try with_reducible rfl)
              try simp only [Act.put, List.setIfInBounds_toArray, List.set_cons_zero, List.set_cons_succ]

              refine till_one (i := 38) rfl (by kernel_rfl) (fun K' hK => ?_)
              go_simp
              refine (HCY.out _ HX3.out).mono ?_
              rintro e x5 ⟨p5, r5, es5, rfl, -, ht5, hx5⟩
              have HX5 : Hid (Below wr.heap.size wr x5) := Lib.hid (bl_then HX3.out hx5)
              have HT5 := Lib.hid ht5
              clear hx5 ht5
              go_simp
              refine hK.out _ _ (HSX.out _ HX5.out) (fun hHeld2 => ?_)
              clear hK K' hHeld
              have hHeld := hHeld2
              clear hHeld2
              try simp only [Act.put, List.setIfInBounds_toArray, List.set_cons_zero, List.set_cons_succ]
              refine till_one (i := 39) rfl (by kernel_rfl) (fun K' hK => ?_)
              go_simp
              refine (HS3.out _ _ _ _ HX5.out HT5.out).mono ?_
              rintro e x6 ⟨rfl, hx6⟩
              have HX6 : Hid (Below wr.heap.size wr x6) := Lib.hid (bl_then HX5.out hx6)
              clear hx6
              go_simp
              refine hK.out _ _ (HSX.out _ HX6.out) (fun hHeld2 => ?_)
              clear hK K' hHeld
              have hHeld := hHeld2
              clear hHeld2
              try simp only [Act.put, List.setIfInBounds_toArray, List.set_cons_zero, List.set_cons_succ]
              refine till_yes (i := 40) (v := ?_) rfl (late_direct (by kernel_rfl)) (by kernel_rfl) (by kernel_rfl) (by kernel_rfl) (by kernel_rfl) (fun _ _ _ h => h) (by kernel_rfl) (by assumption) ?_ ?_
              rotate_left 1
              · (intro w hSw; (try dsimp only at hSw); go_simp; try with_reducible rfl)
              try simp only [Act.put, List.setIfInBounds_toArray, List.set_cons_zero, List.set_cons_succ]

              refine till_yes (i := 41) (v := ?_) rfl (late_direct (by kernel_rfl)) (by kernel_rfl) (by kernel_rfl) (by kernel_rfl) (by kernel_rfl) (fun _ _ _ h => h) (by kernel_rfl) (by assumption) ?_ ?_
              rotate_left 1
              · (intro w hSw; (try dsimp only at hSw); go_simp; try with_reducible rfl)
              try simp only [Act.put, List.setIfInBounds_toArray, List.set_cons_zero, List.set_cons_succ]

              refine till_one (i := 42) rfl (by kernel_rfl) (fun K' hK => ?_)
              go_simp
              refine (known_any _).mono ?_
              rintro e x7 ⟨rfl, hx7⟩
              have HX7 : Hid (Below wr.heap.size wr x7) := Lib.hid (bl_then HX6.out hx7)
              clear hx7
              go_simp
              refine hK.out _ _ (HSX.out _ HX7.out) (fun hHeld2 => ?_)
              clear hK K' hHeld
              have hHeld := hHeld2
              clear hHeld2
              try simp only [Act.put, List.setIfInBounds_toArray, List.set_cons_zero, List.set_cons_succ]
              refine till_yes (i := 43) (v := ?_) rfl (late_direct (by kernel_rfl)) (by kernel_rfl) (by kernel_rfl) (by kernel_rfl) (by kernel_rfl) (fun _ _ _ h => h) (by kernel_rfl) (by assumption) ?_ ?_
              rotate_left 1
              · (intro w hSw; (try dsimp only at hSw); go_simp; try with_reducible rfl)
              try simp only [Act.put, List.setIfInBounds_toArray, List.set_cons_zero, List.set_cons_succ]

              have t6c := bl_cell HX7.out HB6.out.cell
              have t6f := (boxed_blw HB6.out HX7.out).frozen
              refine till_late (i := 44) rfl (by decide) (by kernel_rfl) (fun K' hK => ?_)
              go_simp
              refine hK.out _ _ ?_
              clear hK K'
              refine till_done (by kernel_rfl) ?_ _
              refine NoPanic.normal ?_
              clear t6c t6f hHeld
              go_wp2_with fail
              exact leave_one Try.results7 rfl HKR.out (HBW.out.trans (HBWR.out.mono HBW.out.size)) HWD.out HB6.out.cell (Below.refl _ _) HX7.out (by show w.heap.size ≤ w.heap.size + 1; omega)
theorem softCopies_any (va vb : Value) (ahead behind : List Ac) (many : Int) (w : World) (h1 : SAt Ac.cells 3 w va ahead) (h2 : SAt Ac.cells 3 w vb behind) (hln : (ahead.length + behind.length) * 32 ≤ 140737488355328) :
    Calls Try.prog 7 #[va, vb, .int .i64 many] w fun e w' => e = .returned (.bool true) ∧ Below w.heap.size w w' := by
  by_cases hg : fewB (ahead ++ behind) 50 = true ∧ 1 ≤ many ∧ many ≤ 50
  · exact copies_main va vb ahead behind many w h1 h2 hln hg.1 hg.2.1 hg.2.2
  · exact copies_no va vb ahead behind many w h1 h2 hln hg
end Go.Proofs.Ytojeombljhmkaaa
