/- Topo: TopoCopies. -/
import Derived.Test.YtfifmkjidljeeaaTopoT
import Derived.Test.YtfifmkjidljeeaaTopoJ
namespace Go.Proofs.Ytfifmkjidljeeaa
open Go.RowKit Go.Shelf
set_option linter.unusedVariables false
set_option linter.unusedSimpArgs false
attribute [local go_sem] Oper.semAt_some
theorem elLk : ElT Try.prog 28 23 8 64 (.agg #[.int .i64 0, .int .i64 0, .int .i64 0, .int .i64 0, .int .i64 0, .int .i64 0, .int .i64 0, .int .i64 0]) := ElT.mk' Try.underlying28 (by kernel_rfl) rfl (by decide)
theorem lk_one : ∀ x, ∀ u ∈ Lk.cells x, u.oneCell' = true := fun x u hu => by simp [Lk.cells] at hu; rcases hu with rfl | rfl | rfl | rfl | rfl | rfl | rfl | rfl <;> rfl
/-- What holds between two rounds: so many have come, which begin the list, and fewer than asked for. -/
def CopI (ib : Nat) (w8 : World) (out : List Nat) (many : Int) (pre : List Nat) (W : World) : Prop :=
  (Below ib w8 W ∧ W.cell? ⟨ib, 0, none⟩ = some (.int .i64 (pre.length : Nat)) ∧ W.frozen? ⟨ib, 0, none⟩ = false) ∧ pre <+: out ∧ (pre.length : Int) < many
/-- How a round leaves: with a number that the list does not have there, or with as many as asked for. -/
def CopX (ib : Nat) (w8 : World) (out : List Nat) (many : Int) (c : Code) (pre : List Nat) (W : World) : Prop :=
  (c = .ret ∧ ¬ pre <+: out) ∨ (c = .exit 2 ∧ Below ib w8 W ∧ W.cell? ⟨ib, 0, none⟩ = some (.int .i64 (pre.length : Nat)) ∧ W.frozen? ⟨ib, 0, none⟩ = false ∧ pre <+: out ∧ (pre.length : Int) = many)
theorem prefix_snoc {pre out : List Nat} {x : Nat} (h : pre <+: out) (hx : out[pre.length]? = some x) : pre ++ [x] <+: out := by
  obtain ⟨t, rfl⟩ := h
  rw [List.getElem?_append_right (Nat.le_refl _), Nat.sub_self] at hx
  cases t with
  | nil => simp at hx
  | cons y t =>
    simp at hx
    subst hx
    exact ⟨t, by simp⟩
theorem prefix_get {pre out : List Nat} {x : Nat} (h : pre ++ [x] <+: out) : out[pre.length]? = some x := by
  obtain ⟨t, rfl⟩ := h
  simp
theorem copI_own {ib : Nat} {w8 : World} {out : List Nat} {many : Int} (h : ib ≤ w8.heap.size) : OwnFrom w8.heap.size (CopI ib w8 out many) :=
  OwnFrom.and (OwnFrom.and (ownFrom_below h h) (Own.from (fun s A B row hs hg hr => ⟨cell_kept hs.1 hg hr, (frozen_kept hs.1 hg hr).trans hs.2⟩) _)) (ownFrom_pure _ (fun pre : List Nat => pre <+: out ∧ (pre.length : Int) < many))
theorem copX_own {ib : Nat} {w8 : World} {out : List Nat} {many : Int} (h : ib ≤ w8.heap.size) (c : Code) : OwnFrom w8.heap.size (CopX ib w8 out many c) := by
  intro s A B row hs hg hr
  rcases hs with h1 | ⟨h1, hB, hc, hf, h2⟩
  · exact Or.inl h1
  · exact Or.inr ⟨h1, ownFrom_below (β := Unit) h h () A B row hB hg hr, cell_kept hc hg (fun r e => (hr r e).2), (frozen_kept hc hg (fun r e => (hr r e).2)).trans hf, h2⟩
/-- The way out of a function that holds one range over a function and whose result lies in a cell. -/
theorem leave_one {fn : Func} {n t b D : Nat} {tmps : Array Value} {u : Value} {w W wA w' : World} (hr : fn.results = #[.cell t 4]) (htm : tmps[t]?.getD undef = .pointer (some ⟨b, 0, none⟩)) (hK : W.heap[D]? = some (.deferred (some []))) (hb : Below w.heap.size w W) (hwD : w.heap.size ≤ D)
    (hc : W.cell? ⟨b, 0, none⟩ = some u) (hA : Below W.heap.size W wA) (hk : Below wA.heap.size wA w') (hbb : w.heap.size ≤ b) :
    bodyPostM Fence.wide n Try.prog fn (fun e w' => e = .returned (.bool true) ∧ Below w.heap.size w w') .ret { tmps := tmps, defers := [{ target := .collected D, args := #[] }] } (w'.setCell ⟨b, 0, none⟩ (.bool true)) := by
  have hDs : D < W.heap.size := (Array.getElem?_eq_some_iff.1 hK).1
  have hAk := bl_then hA hk
  have hK2 : (w'.setCell ⟨b, 0, none⟩ (.bool true)).heap[D]? = some (.deferred (some [])) := (KeepsOthers.setCell _ _ _).same D _ ((hAk.block D hDs).trans hK) rfl
  have hck := bl_cell hAk hc
  have hc2 : (w'.setCell ⟨b, 0, none⟩ (.bool true)).cell? ⟨b, 0, none⟩ = some (.bool true) := World.cell?_setCell_same' _ _ _ (by rw [hck]; rfl)
  have hc3 := cell_kept hc2 (grownBy_putObj' _ D (.deferred none)) (fun r e => by cases e; exact ⟨_, hK2, rfl⟩)
  refine ⟨by simp, .inl ⟨_, _, rfl, run_takeDeferred hK2, ?_⟩⟩
  refine ⟨.bool true, by simp [results, hr, go_sem, htm, hc3], rfl, ?_⟩
  have hb1 : Below w.heap.size w (w'.setCell ⟨b, 0, none⟩ (.bool true)) := bl_set (bl_then hb hAk) hbb _
  exact hb1.trans (belowK_b (w := w) (Nat.le_refl _) _ D _ _ hwD hK2 rfl rfl)
set_option maxRecDepth 100000 in
set_option maxHeartbeats 4000000 in
theorem copies_main (nodes : Int) (v : Value) (ls : List Lk) (many : Int) (w : World) (h : SAt Lk.cells 8 w v ls) (hl60 : ls.length ≤ 60) (hmz : 1 ≤ many) (hmz2 : many ≤ 20) :
    Calls Try.prog 6 #[.int .i64 nodes, v, .int .i64 many] w fun e w' => e = .returned (.bool true) ∧ Below w.heap.size w w' := by
  obtain ⟨A, c, rfl⟩ := h.slice
  have H := Lib.hid h
  clear h
  have g1z : (ls.length : Int) ≤ 60 := by omega
  refine callsIn_wide (n := 8) |>.1 ?_
  refine callsIn_of_wp_marks Try.func6 rfl trivial ?_ rfl
  simp only [Try.ntmps6, List.size_toArray, List.length_cons, List.length_nil, Nat.reduceAdd, Nat.reduceSub, Array.replicate_succ, Array.replicate_zero, List.push_toArray, List.append_toArray, List.nil_append, List.cons_append]
  refine wpIn_wide.2 ?_
  go_wp2_with fail
  have ga0 : ((w.alloc (.cells #[.int .i64 many] 3)).alloc (.cells #[.bool false] 4)).cell? ⟨w.heap.size, 0, none⟩ = some (.int .i64 many) := by go_simp
  have ga1 : ((w.alloc (.cells #[.int .i64 many] 3)).alloc (.cells #[.bool false] 4)).cell? ⟨w.heap.size + 1, 0, none⟩ = some (.bool false) := by go_simp
  have ga2 : ((w.alloc (.cells #[.int .i64 many] 3)).alloc (.cells #[.bool false] 4)).frozen? ⟨w.heap.size + 1, 0, none⟩ = false := by go_simp
  generalize hW0 : (w.alloc (.cells #[.int .i64 many] 3)).alloc (.cells #[.bool false] 4) = W0 at ga0 ga1 ga2 ⊢
  have hW0b : Below w.heap.size w W0 := hW0 ▸ bl_alloc (bl_alloc (Below.refl _ _) _) _
  have hW0s : W0.heap.size = w.heap.size + 2 := by rw [← hW0]; simp
  have HX : Hid (∀ X, Below W0.heap.size W0 X → X.cell? ⟨w.heap.size, 0, none⟩ = some (.int .i64 many) ∧ X.cell? ⟨w.heap.size + 1, 0, none⟩ = some (.bool false) ∧ X.frozen? ⟨w.heap.size + 1, 0, none⟩ = false ∧ SAt Lk.cells 8 X (.slice A ls.length c) ls ∧ w.heap.size + 1 < X.heap.size) :=
    Lib.hid fun X hX => ⟨bl_cell hX ga0, bl_cell hX ga1, ((bl_cells hX).2 _ _ (by omega)).trans ga2, H.out.below (bl_then hW0b hX), by have := hX.size; omega⟩
  have HB0 := Lib.hid hW0b
  clear hW0 ga0 ga1 ga2 hW0b hW0s
  refine (new_any nodes _ ls _ (HX.out W0 (Below.refl _ _)).2.2.2.1 (by omega)).mono ?_
  rintro e w1 (⟨hne, q, rfl, hm1, hb1⟩ | ⟨hne, rfl, hb1⟩)
  · have HNE := Lib.hid hne
    obtain ⟨z1, z2, z3, z4, z5⟩ := newErr_zero hne
    have hnn : 1 ≤ nodes ∧ nodes ≤ 16 := by simpa [wi] using z1
    obtain ⟨N, rfl⟩ : ∃ N : Nat, nodes = (N : Int) := ⟨nodes.toNat, by omega⟩
    have hto : ∀ l ∈ ls, 0 ≤ l.b ∧ l.b < N := by
      intro l hl
      have h1 := List.any_eq_false.1 z2 l hl
      have hok : okLink l N = true := by simpa using h1
      rw [right_ok] at hok
      simp only [rightB, decide_eq_true_eq] at hok
      omega
    have hfe : ∀ l ∈ ls, 0 ≤ l.e ∧ l.e ≤ 1000 := by
      intro l hl
      have h1 := List.any_eq_false.1 z2 l hl
      have hok : okLink l N = true := by simpa using h1
      rw [right_ok] at hok
      simp only [rightB, decide_eq_true_eq] at hok
      omega
    have HFE := Lib.hid hfe
    have HTO := Lib.hid hto
    have HAP := Lib.hid z4
    have HM1 := Lib.hid hm1
    have HB1 := Lib.hid hb1
    have hN16 : N ≤ 16 := by omega
    clear hne z1 z2 z3 z4 z5 hto hfe hm1 hb1 hnn
    go_wp2_with fail
    refine (copy_any q N ls _ HM1.out HNE.out).mono ?_
    rintro e w2 ⟨q2, rfl, hm2, hb2⟩
    have HM2 := Lib.hid hm2
    have HB2 := Lib.hid (bl_then HB1.out hb2)
    have HM := Lib.hid (HM1.out.below hb2)
    clear hm2 hb2 HM1 HB1
    go_wp2_with (at_builtin; go_loud (refine wpList_app rfl _ (.tmp 47) rfl elLk (fun _ => rfl) lk_one (base := w2.heap.size) (n := 0) (xs := ([] : List Lk)) (ys := ls) rfl rfl rfl (World.ownsRow_nil _ _ _ _) ((HX.out _ HB2.out).2.2.2.1) (Nat.le_refl _) (by simp [maxLen]; omega) (by simp; omega) ?_; intro v3 w3 hown3 hg3; have hb3 : Below w2.heap.size w2 w3 := own_below (World.ownsRow_nil _ _ 23 8) hg3 (Nat.le_refl _); simp only [List.nil_append] at hown3; clear hg3))
    obtain ⟨A3, c3, rfl⟩ := own_form hown3
    have HO3 := Lib.hid hown3
    have HB3 := Lib.hid hb3
    clear hown3 hb3
    go_loopg [11, 12] (ls.length + 1) (fun gg s11 s12 wr => ∃ k : Nat, k ≤ ls.length ∧ ls.length - k ≤ gg ∧ s12 = .int .i64 k ∧ s11 = .bool (halfB ls k) ∧ Aside (wr.ownsRow w2.heap.size 23 8 (.slice A3 ls.length c3) ls.length ((mix ls k).flatMap Lk.cells)) ∧ Aside (Below w2.heap.size w2 wr))
    case atStart => exact ⟨0, by omega, by omega, rfl, rfl, by rw [show mix ls 0 = ls by simp [mix]]; exact HO3.out, HB3.out⟩
    case round =>
      obtain ⟨k, hk, hgg, rfl, rfl, HO, HB⟩ := hrel
      have hbW := bl_then HB2.out HB.out
      obtain ⟨y0, y1, y2, y3, y4⟩ := HX.out wr hbW
      by_cases hlt : k < ls.length
      · have hltz : (k : Int) < (ls.length : Int) := by omega
        have hgk : ls[k]? = some ls[k] := List.getElem?_eq_getElem hlt
        generalize ls[k] = l at hgk
        rcases H.out with ⟨h1, h2⟩ | ⟨b, o, c', h1, _, _, hrow⟩
        · subst h2; simp at hlt
        · simp only [Value.slice.injEq] at h1
          obtain ⟨rfl, -, rfl⟩ := h1
          have c4w := (LkAt.ofRow hrow hgk).2.2.2.2.1
          have hbs : b < w.heap.size := World.block_lt_of_cell? w ⟨b, _, none⟩ c4w
          have c4 : wr.cell? ⟨b, o + k * 8 + 4, none⟩ = some (.int .i64 l.e) := bl_cell (bl_then HB0.out hbW) c4w
          rcases HO.out.2 with ⟨-, h2⟩ | ⟨g, cap, cur, h3, hbase, hbk, hc1, hc2, hc3, hc4⟩
          · omega
          · simp only [Value.slice.injEq] at h3
            obtain ⟨rfl, -, rfl⟩ := h3
            obtain ⟨hst, hsg⟩ := HO.out.stored (k * 8 + 4) (.int .i64 (1000 - l.e))
            rw [mix_set hgk] at hst
            have hmrow := SAt.ofOwn (enc := Lk.cells) (fun _ => rfl) (mix_len ls k) HO.out
            have hgs : g < wr.heap.size := (Array.getElem?_eq_some_iff.1 hbk).1
            have hgc : wr.cell? ⟨g, k * 8 + 4, none⟩ = some (.int .i64 l.e) := by
              rcases hmrow with ⟨h5, -⟩ | ⟨b5, o5, c5, h5, _, _, hr5⟩
              · cases h5
              · simp only [Value.slice.injEq, Option.some.injEq, Addr.mk.injEq, and_true] at h5
                obtain ⟨⟨rfl, rfl⟩, -, -⟩ := h5
                have := (LkAt.ofRow hr5 (mix_get hgk)).2.2.2.2.1
                rwa [Nat.zero_add] at this
            have hgf : wr.frozen? ⟨g, k * 8 + 4, none⟩ = false := by simp [World.frozen?, hbk]
            obtain ⟨e0, e1⟩ := HFE.out l (List.mem_of_getElem? hgk)
            have hsu := halfB_succ hgk
            have HST := Lib.hid hst
            have HBS := Lib.hid (bl_set (p := ⟨g, k * 8 + 4, none⟩) HB.out hbase (.int .i64 (1000 - l.e)))
            clear hst hsg hmrow hbk hc1 hc2 hc3 hc4 hrow hgk
            have hcx : (wr.setCell ⟨g, k * 8 + 4, none⟩ (.int .i64 (1000 - l.e))).cell? ⟨b, o + k * 8 + 4, none⟩ = some (.int .i64 l.e) := bl_cell (bl_then HB0.out (bl_then HB2.out HBS.out)) c4w
            clear c4w
            by_cases h5 : l.e = 500
            · have h5b : (l.e == 500) = true := by simp [h5]
              clear h5
              rw [h5b, Bool.or_true] at hsu
              have HSU := Lib.hid hsu
              clear hsu
              generalize hhv : halfB ls k = hv
              cases hv
              all_goals
                clear hhv
                go_wp2_with fail
                go_roundg (ls.length - (k + 1))
                case measure => omega
                case rel => exact ⟨k + 1, by omega, by omega, by go_num, by rw [HSU.out], HST.out, HBS.out⟩
            · have h5b : (l.e == 500) = false := by simp [h5]
              clear h5
              rw [h5b, Bool.or_false] at hsu
              have HSU := Lib.hid hsu
              clear hsu
              generalize hhv : halfB ls k = hv at *
              cases hv
              all_goals
                clear hhv
                go_wp2_with fail
                go_roundg (ls.length - (k + 1))
                case measure => omega
                case rel => exact ⟨k + 1, by omega, by omega, by go_num, by rw [HSU.out], HST.out, HBS.out⟩
      · obtain rfl : k = ls.length := by omega
        have hltz : ¬ ((ls.length : Nat) : Int) < ((ls.length : Nat) : Int) := by omega
        have hsf : SAt Lk.cells 8 wr (.slice A3 ls.length c3) (ls.map far) := by
          rw [← mix_all]
          exact SAt.ofOwn (enc := Lk.cells) (fun _ => rfl) (mix_len _ _) HO.out
        have hnf := new_any N _ (ls.map far) wr hsf (by simp; omega)
        have HBW := Lib.hid hbW
        have HM3 := Lib.hid (HM.out.below HB.out)
        have HM4 := Lib.hid (HM2.out.below HB.out)
        generalize hhv : halfB ls ls.length = hv
        have HHV := Lib.hid hhv
        clear hsf hbW y0 y1 y2 y3 y4 hhv HO HO3 HM HM2
        go_wp2_with fail
        refine hnf.mono ?_
        clear hnf
        rintro e w4 (⟨-, q4, rfl, hm4, hb4⟩ | ⟨hx, -⟩)
        · have hsm := same_any q4 q N (ls.map far) ls w4 hm4 (HM3.out.below hb4)
          have HB4 := Lib.hid (bl_then HBW.out hb4)
          have HM5 := Lib.hid (HM3.out.below hb4)
          have HM6 := Lib.hid (HM4.out.below hb4)
          generalize hev : eqLs (ls.map far) ls = ev at hsm
          have HEV := Lib.hid hev
          clear hm4 hb4 hev HM3 HM4
          go_upto_region 14 with fail
          go_cut [11, 15] from 20 (fun s11 s15 wc => s15 = .bool (hv || !ev) ∧ Aside (Below w4.heap.size w4 wc))
          case first =>
            go_wp2_with (go_at_call 19; refine hsm.mono ?_; rintro e w5 ⟨rfl, hb5⟩)
            · go_meet
              case rel => exact ⟨by simp_all, Below.refl _ _⟩
            · go_meet
              case rel => exact ⟨by simp_all, hb5⟩
          case rest =>
            obtain ⟨rfl, HBC⟩ := hcut
            have hov : ls ≠ [] → (hv || !ev) = true := by
              intro hne
              have := far_other hne
              rwa [HHV.out, HEV.out] at this
            generalize (hv || !ev) = ov at hov ⊢
            have HOV := Lib.hid hov
            have HB5 := Lib.hid (bl_then HB4.out HBC.out)
            have HM7 := Lib.hid (HM5.out.below HBC.out)
            have HM8 := Lib.hid (HM6.out.below HBC.out)
            have hro := rout_any N _ ls 0 wc (HX.out wc HB5.out).2.2.2.1 (by omega)
            clear hov hsm HM5 HM6 HBC
            go_wp2_with fail
            refine hro.mono ?_
            clear hro
            rintro e w6 ⟨⟨vo, rfl, hso⟩, hb6⟩
            obtain ⟨Ao, co, rfl⟩ := hso.slice
            have HSO := Lib.hid hso
            have HB6 := Lib.hid (bl_then HB5.out hb6)
            have HM9 := Lib.hid (HM7.out.below hb6)
            have HM10 := Lib.hid (HM8.out.below hb6)
            clear hso hb6 HM7 HM8
            go_wp2_with fail
            have hol : (outL N ls 0).length ≤ N := outL_len ls 0 N
            generalize hout : outL N ls 0 = out at *
            have HOUT := Lib.hid hout
            refine (out_any _ 0 _).mono ?_
            rintro e w8 ⟨rfl, hw8⟩
            have hb8 : Below w6.heap.size w6 w8 := by rw [hw8]; exact bl_alloc (bl_alloc (bl_alloc (bl_alloc (Below.refl _ _) _) _) _) _
            have hs8 : w8.heap.size = w6.heap.size + 4 := by rw [hw8]; simp
            have k0 : w8.cell? ⟨w6.heap.size, 0, none⟩ = some (.slice Ao out.length co) := by subst hw8; go_simp
            have k1 : w8.cell? ⟨w6.heap.size + 1, 0, none⟩ = some (.int .i64 0) := by subst hw8; go_simp
            have k1f : w8.frozen? ⟨w6.heap.size + 1, 0, none⟩ = false := by subst hw8; go_simp
            have k2 : w8.cell? ⟨w6.heap.size + 2, 0, none⟩ = some (.pointer (some ⟨q, 0, none⟩)) := by subst hw8; go_simp
            have k3 : w8.cell? ⟨w6.heap.size + 3, 0, none⟩ = some (.int .i64 0) := by subst hw8; go_simp
            have hM8 := HM9.out.below hb8
            have hst := out_stops 7 (by omega) q (w6.heap.size + 2) (w6.heap.size + 3) N ls 0 w8 hM8 k2 k3 HAP.out HTO.out (by omega)
            rw [HOUT.out] at hst
            have HST := Lib.hid hst
            have HB8 := Lib.hid hb8
            have hen := fun (w : World) (f : Fn) rs cb => run_eql_func_nil (P := Try.prog) w 50 f rs cb Try.underlying50
            have hib : w6.heap.size + 1 ≤ w8.heap.size := by omega
            have hib2 : w6.heap.size + 1 < w8.heap.size := by omega
            have HFX : Hid (∀ X, Below (w6.heap.size + 1) w8 X → Below w6.heap.size w6 X ∧ X.cell? ⟨w6.heap.size, 0, none⟩ = some (.slice Ao out.length co)) := Lib.hid fun X hX => ⟨hb8.trans (hX.mono (by omega)), (hX.cell (p := ⟨w6.heap.size, 0, none⟩) (by simp)).trans k0⟩
            clear hw8 hst hb8 hM8 hout k0 k2 k3
            simp only [World.size_alloc]
            go_wp2_with fail
            refine (wpIn_wide (n := 8)).1 ?_
            refine wpIn_rangeFunc_ownF rfl (by omega) (gf := 36) (lb := #[.pointer (some ⟨w6.heap.size + 2, 0, none⟩), .pointer (some ⟨w6.heap.size + 3, 0, none⟩)]) rfl trivial enc_out1 HST.out keepsC_t keepsC_b (Below.refl _ _) (fun _ => rfl)
              (CopI (w6.heap.size + 1) w8 out many) (CopX (w6.heap.size + 1) w8 out many) (copI_own hib) (copX_own hib) ⟨⟨Below.refl _ _, k1, k1f⟩, List.nil_prefix, by simp; omega⟩ ?a1 ?assign ?body ?done ?stop
            case assign =>
              intro l x W K hK
              gi_wp2
              exact hK
            case body =>
              rintro l pre x W ⟨⟨hB, hc, hf⟩, hp, hlt⟩ hN
              obtain ⟨hB6, hx0⟩ := HFX.out W hB
              have hgy : out[pre.length]? = some out[pre.length] := List.getElem?_eq_getElem hN
              generalize out[pre.length] = y at hgy
              have hNz : (pre.length : Int) < (out.length : Int) := by omega
              have hi1 : (pre.length : Int) + 1 < 9223372036854775807 := by omega
              rcases HSO.out.below hB6 with ⟨h1, h2⟩ | ⟨b, o, c', h1, _, hoc, hrow⟩
              · subst h2; simp at hN
              · simp only [Value.slice.injEq] at h1
                obtain ⟨rfl, -, rfl⟩ := h1
                have hcy : W.cell? ⟨b, o + pre.length, none⟩ = some (.int .i64 (y : Nat)) := by
                  have := hrow pre.length y hgy 0 _ rfl
                  simpa using this
                obtain ⟨t6c, t6f⟩ : W.cell? ⟨w.heap.size + 1, 0, none⟩ = some (.bool false) ∧ W.frozen? ⟨w.heap.size + 1, 0, none⟩ = false := by
                  have := HX.out W (bl_then HB6.out hB6)
                  exact ⟨this.2.1, this.2.2.1⟩
                have t5c := (HX.out W (bl_then HB6.out hB6)).1
                have hws : w.heap.size + 1 < w6.heap.size := (HX.out w6 HB6.out).2.2.2.2
                have hws2 : w.heap.size < w6.heap.size := by omega
                have hge : decide (out.length ≤ pre.length) = false := by simp; omega
                have hge2 : ¬ out.length ≤ pre.length := by omega
                have HGY := Lib.hid hgy
                have HP := Lib.hid hp
                have HLT := Lib.hid hlt
                have HBB := Lib.hid hB
                obtain ⟨F', hF'⟩ : ∃ F' : Fence, F'.inRound l = Fence.wide.inRound l := ⟨_, rfl⟩
                rw [← hF']
                clear hrow hgy hp hlt hB hF' hen hB6 hs8
                by_cases hxy : x = y
                · subst hxy
                  have hxb : ((x : Int) == (x : Int)) = true := by simp
                  by_cases hmn : (pre.length : Int) + 1 = many
                  · have HMN := Lib.hid hmn
                    gi_wp2
                    refine ⟨KeepsOthers.setCell _ _ _, Or.inr ⟨rfl, HBB.out.setCell (p := ⟨w6.heap.size + 1, 0, none⟩) (Nat.le_refl _) _, ?_, by rw [World.frozen?_setCell]; exact hf, prefix_snoc HP.out HGY.out, by rw [← HMN.out]; simp⟩⟩
                    rw [World.cell?_setCell_same' _ _ _ (by rw [hc]; rfl), ← HMN.out]
                    simp
                  · have HMN := Lib.hid hmn
                    have hmb : (((pre.length : Int) + 1) == many) = false := by simpa using hmn
                    clear hmn
                    gi_wp2
                    refine ⟨KeepsOthers.setCell _ _ _, keepsC_set (keepsC_refl _ _) hib2 _, ⟨HBB.out.setCell (p := ⟨w6.heap.size + 1, 0, none⟩) (Nat.le_refl _) _, ?_, by rw [World.frozen?_setCell]; exact hf⟩, prefix_snoc HP.out HGY.out, ?_⟩
                    · rw [World.cell?_setCell_same' _ _ _ (by rw [hc]; rfl)]
                      simp
                    · have h1 := HLT.out
                      have h2 := HMN.out
                      simp only [List.length_append, List.length_cons, List.length_nil]
                      omega
                · have hxb : ((x : Int) == (y : Int)) = false := by simp; omega
                  have hxn : ((x : Int) != (y : Int)) = true := by simp; omega
                  gi_wp2
                  refine ⟨KeepsOthers.setCell _ _ _, Or.inl ⟨rfl, fun h => hxy ?_⟩⟩
                  have h1 := prefix_get h
                  rw [HGY.out] at h1
                  cases h1
                  rfl
            case done =>
              rintro D xs W hD hxs ⟨⟨hB, hc, hf⟩, hp, hlt⟩ hK
              rw [hxs] at hc hlt
              clear hxs hp
              have hp : True := trivial
              have hmin : ((out.length : Int) == min many (out.length : Int)) = true := by simp; omega
              obtain ⟨hB6, hx0⟩ := HFX.out W hB
              have hsA := same_any q q2 N ls ls W (HM9.out.below hB6) (HM10.out.below hB6)
              rw [eqLs_self] at hsA
              have HMW := Lib.hid (HM9.out.below hB6)
              have hbW := bl_then HB6.out hB6
              obtain ⟨t5c, t6c, t6f, -, t6s⟩ := HX.out W hbW
              have HBW := Lib.hid hbW
              have HKD := Lib.hid hK
              have hDs : D < W.heap.size := (Array.getElem?_eq_some_iff.1 hK).1
              have hwD : w.heap.size ≤ D := by have h1 := HB0.out.size; have h2 := HB6.out.size; have h3 := HB8.out.size; omega
              have hlz0 : ls.length = 0 ∨ ov = true := by
                by_cases hnil : ls.length = 0
                · exact Or.inl hnil
                · exact Or.inr (HOV.out (by rintro rfl; simp at hnil))
              clear hbW hK hB hB6 hen hp hD hltz hlt
              by_cases hnil : ls.length = 0
              · have hnz : ((ls.length : Nat) : Int) = 0 := by omega
                have hnb : (((ls.length : Nat) : Int) == 0) = true := by simpa using hnz
                clear hnil hnz hlz0
                go_wp2_with (first | (go_at_call 19; (with_reducible refine hsA.mono ?_); rintro e wA ⟨rfl, hbA⟩; have hsH := same_half q N ls wA (HMW.out.below hbA); have hcA := bl_cell hbA t6c; have hfA := ((bl_cells hbA).2 _ 0 t6s).trans t6f; have htA := hbA.size) | (go_at_call 19; (with_reducible refine hsH.mono ?_); rintro e w' ⟨rfl, rfl⟩) | (go_at_call 10; refine (known_any _).mono ?_; rintro e w' ⟨rfl, hbk⟩; have hck := bl_cell hbk hcA; have hfk := ((bl_cells hbk).2 _ 0 (by omega)).trans hfA))
                exact leave_one Try.results6 rfl HKD.out (bl_then HB0.out HBW.out) hwD t6c hbA hbk (by simp)
              · obtain rfl : ov = true := hlz0.resolve_left hnil
                have hnb : (((ls.length : Nat) : Int) == 0) = false := beq_eq_false_iff_ne.2 (by omega)
                clear hnil hlz0
                go_wp2_with (first | (go_at_call 19; (with_reducible refine hsA.mono ?_); rintro e wA ⟨rfl, hbA⟩; have hsH := same_half q N ls wA (HMW.out.below hbA); have hcA := bl_cell hbA t6c; have hfA := ((bl_cells hbA).2 _ 0 t6s).trans t6f; have htA := hbA.size) | (go_at_call 19; (with_reducible refine hsH.mono ?_); rintro e w' ⟨rfl, rfl⟩) | (go_at_call 10; refine (known_any _).mono ?_; rintro e w' ⟨rfl, hbk⟩; have hck := bl_cell hbk hcA; have hfk := ((bl_cells hbk).2 _ 0 (by omega)).trans hfA))
                exact leave_one Try.results6 rfl HKD.out (bl_then HB0.out HBW.out) hwD t6c hbA hbk (by simp)
            case stop =>
              rintro D c pre W hD hSp hIx hK
              rcases hIx with ⟨rfl, hno⟩ | ⟨rfl, hB, hc, hf, hp, hlt⟩
              · exact absurd hSp hno
              · refine wpIn_wide.2 ?_
                have hmin : ((pre.length : Int) == min many (out.length : Int)) = true := by
                  have := hp.length_le
                  simp
                  omega
                obtain ⟨hB6, hx0⟩ := HFX.out W hB
                have hsA := same_any q q2 N ls ls W (HM9.out.below hB6) (HM10.out.below hB6)
                rw [eqLs_self] at hsA
                have HMW := Lib.hid (HM9.out.below hB6)
                have hbW := bl_then HB6.out hB6
                obtain ⟨t5c, t6c, t6f, -, t6s⟩ := HX.out W hbW
                have HBW := Lib.hid hbW
                have HKD := Lib.hid hK
                have hDs : D < W.heap.size := (Array.getElem?_eq_some_iff.1 hK).1
                have hwD : w.heap.size ≤ D := by have h1 := HB0.out.size; have h2 := HB6.out.size; have h3 := HB8.out.size; omega
                have hlz0 : ls.length = 0 ∨ ov = true := by
                  by_cases hnil : ls.length = 0
                  · exact Or.inl hnil
                  · exact Or.inr (HOV.out (by rintro rfl; simp at hnil))
                clear hbW hK hB hB6 hen hp hD hltz hlt hSp
                by_cases hnil : ls.length = 0
                · have hnz : ((ls.length : Nat) : Int) = 0 := by omega
                  have hnb : (((ls.length : Nat) : Int) == 0) = true := by simpa using hnz
                  clear hnil hnz hlz0
                  go_wp2_with (first | (go_at_call 19; (with_reducible refine hsA.mono ?_); rintro e wA ⟨rfl, hbA⟩; have hsH := same_half q N ls wA (HMW.out.below hbA); have hcA := bl_cell hbA t6c; have hfA := ((bl_cells hbA).2 _ 0 t6s).trans t6f; have htA := hbA.size) | (go_at_call 19; (with_reducible refine hsH.mono ?_); rintro e w' ⟨rfl, rfl⟩) | (go_at_call 10; refine (known_any _).mono ?_; rintro e w' ⟨rfl, hbk⟩; have hck := bl_cell hbk hcA; have hfk := ((bl_cells hbk).2 _ 0 (by omega)).trans hfA))
                  exact leave_one Try.results6 rfl HKD.out (bl_then HB0.out HBW.out) hwD t6c hbA hbk (by simp)
                · obtain rfl : ov = true := hlz0.resolve_left hnil
                  have hnb : (((ls.length : Nat) : Int) == 0) = false := beq_eq_false_iff_ne.2 (by omega)
                  clear hnil hlz0
                  go_wp2_with (first | (go_at_call 19; (with_reducible refine hsA.mono ?_); rintro e wA ⟨rfl, hbA⟩; have hsH := same_half q N ls wA (HMW.out.below hbA); have hcA := bl_cell hbA t6c; have hfA := ((bl_cells hbA).2 _ 0 t6s).trans t6f; have htA := hbA.size) | (go_at_call 19; (with_reducible refine hsH.mono ?_); rintro e w' ⟨rfl, rfl⟩) | (go_at_call 10; refine (known_any _).mono ?_; rintro e w' ⟨rfl, hbk⟩; have hck := bl_cell hbk hcA; have hfk := ((bl_cells hbk).2 _ 0 (by omega)).trans hfA))
                  exact leave_one Try.results6 rfl HKD.out (bl_then HB0.out HBW.out) hwD t6c hbA hbk (by simp)
        · exact absurd (newErr_far HNE.out) hx
  · obtain ⟨-, x1, x2, -, x4⟩ := HX.out w1 hb1
    have HB1 := Lib.hid hb1
    generalize newErr nodes ls = en at hne ⊢
    have hnb : (en == 0) = false := by simpa using hne
    have hs1 := hb1.size
    clear hb1
    go_wp2_with (first | (go_at_call 19; refine (same_none _ _ _ (Or.inl rfl) (Or.inl rfl)).mono ?_; rintro e w' ⟨rfl, rfl⟩) | (go_at_call 10; refine (known_any _).mono ?_; rintro e w' ⟨rfl, hbk⟩; have hck := bl_cell hbk x1; have hfk := ((bl_cells hbk).2 (w.heap.size + 1) 0 x4).trans x2))
    have hc2 : (w'.setCell ⟨w.heap.size + 1, 0, none⟩ (.bool true)).cell? ⟨w.heap.size + 1, 0, none⟩ = some (.bool true) := World.cell?_setCell_same' _ _ _ (by rw [hck]; rfl)
    exact ⟨.bool true, by simp [results, Try.results6, go_sem, hc2], rfl, bl_set (bl_then HB0.out (bl_then HB1.out hbk)) (by simp) _⟩
set_option maxRecDepth 100000 in
set_option maxHeartbeats 4000000 in
theorem topoCopies_any (nodes : Int) (v : Value) (ls : List Lk) (many : Int) (w : World) (h : SAt Lk.cells 8 w v ls) :
    Calls Try.prog 6 #[.int .i64 nodes, v, .int .i64 many] w fun e w' => e = .returned (.bool true) ∧ Below w.heap.size w w' := by
  obtain ⟨A, c, rfl⟩ := h.slice
  have hlm := h.len
  unfold maxLen at hlm
  have H := Lib.hid h
  clear h
  by_cases g1 : 60 < ls.length
  · have g1z : (60 : Int) < (ls.length : Int) := by omega
    go_enter Try.func6, Try.ntmps6
    go_wp2_with (go_at_call 10; refine (known_any _).mono ?_; rintro e w' ⟨rfl, hbk⟩; have hck := bl_cell hbk (b := w.heap.size + 1) (o := 0) (v := .bool false) (by go_simp); have hfk := ((bl_cells hbk).2 (w.heap.size + 1) 0 (by simp)).trans (show _ = false by go_simp))
    have hc2 : (w'.setCell ⟨w.heap.size + 1, 0, none⟩ (.bool true)).cell? ⟨w.heap.size + 1, 0, none⟩ = some (.bool true) := World.cell?_setCell_same' _ _ _ (by rw [hck]; rfl)
    exact bodyPost_ret (v := .bool true) (by simp [results, Try.results6, go_sem, hc2]) rfl ⟨rfl, bl_set (bl_then (bl_alloc (bl_alloc (Below.refl _ _) _) _) hbk) (by simp) _⟩
  · have g1z : (ls.length : Int) ≤ 60 := by omega
    by_cases g2 : many < 1
    · go_enter Try.func6, Try.ntmps6
      go_wp2_with (go_at_call 10; refine (known_any _).mono ?_; rintro e w' ⟨rfl, hbk⟩; have hck := bl_cell hbk (b := w.heap.size + 1) (o := 0) (v := .bool false) (by go_simp); have hfk := ((bl_cells hbk).2 (w.heap.size + 1) 0 (by simp)).trans (show _ = false by go_simp))
      have hc2 : (w'.setCell ⟨w.heap.size + 1, 0, none⟩ (.bool true)).cell? ⟨w.heap.size + 1, 0, none⟩ = some (.bool true) := World.cell?_setCell_same' _ _ _ (by rw [hck]; rfl)
      exact bodyPost_ret (v := .bool true) (by simp [results, Try.results6, go_sem, hc2]) rfl ⟨rfl, bl_set (bl_then (bl_alloc (bl_alloc (Below.refl _ _) _) _) hbk) (by simp) _⟩
    · by_cases g3 : 20 < many
      · have hmz : 1 ≤ many := by omega
        go_enter Try.func6, Try.ntmps6
        go_wp2_with (go_at_call 10; refine (known_any _).mono ?_; rintro e w' ⟨rfl, hbk⟩; have hck := bl_cell hbk (b := w.heap.size + 1) (o := 0) (v := .bool false) (by go_simp); have hfk := ((bl_cells hbk).2 (w.heap.size + 1) 0 (by simp)).trans (show _ = false by go_simp))
        have hc2 : (w'.setCell ⟨w.heap.size + 1, 0, none⟩ (.bool true)).cell? ⟨w.heap.size + 1, 0, none⟩ = some (.bool true) := World.cell?_setCell_same' _ _ _ (by rw [hck]; rfl)
        exact bodyPost_ret (v := .bool true) (by simp [results, Try.results6, go_sem, hc2]) rfl ⟨rfl, bl_set (bl_then (bl_alloc (bl_alloc (Below.refl _ _) _) _) hbk) (by simp) _⟩
      · exact copies_main nodes _ ls many w H.out (by omega) (by omega) (by omega)
end Go.Proofs.Ytfifmkjidljeeaa
