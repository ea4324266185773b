/- Curve: the document's put. -/
import Derived.Test.YtmkjiflliejjjaaCurS
import Derived.Deep.RegionHeld3
import Derived.Deep.CutBlock
import Derived.IntWalk
namespace Go.Proofs.Ytmkjiflliejjjaa
open Go.RowKit Go.Shelf Go.Sort
set_option linter.unusedVariables false
set_option linter.unusedSimpArgs false
attribute [local go_sem] Oper.semAt_some
theorem at_alloc {w : World} {o : Obj} {n : Nat} (h : n = w.heap.size) : (w.alloc o).heap[n]? = some o := by subst h; show (w.heap.push o)[w.heap.size]? = _; simp
theorem cell_blk {w : World} {g o : Nat} {t : TypeId} {fr : Nat × Nat} {cur : Array Value} (h : w.heap[g]? = some (.cells cur t fr)) : w.cell? ⟨g, o, none⟩ = cur[o]? := by simp [World.cell?, h]
def insL (x : Ln) : List Ln → List Ln
  | [] => [x]
  | y :: l => if leLn y x then y :: insL x l else x :: y :: l
theorem insL_at : ∀ (es : List Ln) (x : Ln) (k : Nat), k ≤ es.length → (∀ j y, j < k → es[j]? = some y → leLn y x) → (∀ y, es[k]? = some y → ¬ leLn y x) → es.take k ++ [x] ++ es.drop k = insL x es
  | [], x, k, hk, _, _ => by
    obtain rfl : k = 0 := by simpa using hk
    simp [insL]
  | y :: l, x, 0, hk, _, h2 => by
    have := h2 y (by simp)
    simp [insL, this]
  | y :: l, x, k + 1, hk, h1, h2 => by
    have hy := h1 0 y (by omega) (by simp)
    have ih := insL_at l x k (by simpa using hk) (fun j z hj hz => h1 (j + 1) z (by omega) (by simpa using hz)) (fun z hz => h2 z (by simpa using hz))
    simp only [insL, hy, if_true, List.take_succ_cons, List.drop_succ_cons, List.cons_append]
    rw [← ih]
theorem insL_len (x : Ln) : ∀ es : List Ln, (insL x es).length = es.length + 1
  | [] => rfl
  | y :: l => by
    unfold insL
    split
    · simp [insL_len x l]
    · simp
theorem insL_mem {x z : Ln} : ∀ {es : List Ln}, z ∈ insL x es ↔ z = x ∨ z ∈ es
  | [] => by simp [insL]
  | y :: l => by
    unfold insL
    split
    · rw [List.mem_cons, insL_mem, List.mem_cons]
      exact ⟨fun h => by rcases h with h | h | h <;> simp [h], fun h => by rcases h with h | h | h <;> simp [h]⟩
    · simp
theorem insL_sorted {x : Ln} : ∀ {es : List Ln}, es.Pairwise leLn → (insL x es).Pairwise leLn
  | [], _ => by simp [insL]
  | y :: l, h => by
    rw [List.pairwise_cons] at h
    unfold insL
    split
    · rename_i hy
      rw [List.pairwise_cons]
      exact ⟨fun z hz => by rcases insL_mem.1 hz with rfl | hz; exact hy; exact h.1 z hz, insL_sorted h.2⟩
    · rename_i hy
      have hxy : leLn x y := (leLn_total x y).resolve_right hy
      rw [List.pairwise_cons]
      exact ⟨fun z hz => by rcases List.mem_cons.1 hz with rfl | hz; exact hxy; exact leLn_trans hxy (h.1 z hz), List.pairwise_cons.2 h⟩
theorem bl_undrew {B : Nat} {w W : World} (h : Below B w.drew W) : Below B w W := ⟨h.os, h.tape, h.output, h.size, h.block⟩
theorem own_mono {w : World} {b b' e k n : Nat} {v : Value} {cs : List Value} (h : w.ownsRow b e k v n cs) (hb : b' ≤ b) : w.ownsRow b' e k v n cs := by
  obtain ⟨h1, h2⟩ := h
  refine ⟨h1, ?_⟩
  rcases h2 with h2 | ⟨g, cap, cur, h3, h4, h5⟩
  · exact Or.inl h2
  · exact Or.inr ⟨g, cap, cur, h3, by omega, h5⟩
set_option maxRecDepth 100000 in
set_option maxHeartbeats 4000000 in
theorem rput_any (v : Value) (c : List Ln) (x : Ln) (w : World) (h : SAt Ln.cells 2 w v c) (hl : c.length ≤ 1000) :
    Calls Try.prog 47 #[v, .agg #[.int .i64 x.b, .int .i64 x.r]] w fun e w' => (∃ v', e = .returned v' ∧ SAt Ln.cells 2 w' v' (insL x c)) ∧ Below w.heap.size w w' := by
  obtain ⟨A, cc, rfl⟩ := h.slice
  have HE := Lib.hid h
  have HGE : Hid (∀ j, j < c.length → c[j]? = some (c.getD j Ln0)) := Lib.hid fun j hj => by simp [List.getD, hj]
  have HB0 := Lib.hid (bl_alloc (Below.refl w.heap.size w) (.cells #[.int .i64 x.b, .int .i64 x.r] 39))
  have HK4 : Hid ((w.alloc (.cells #[.int .i64 x.b, .int .i64 x.r] 39)).heap[w.heap.size]? = some (.cells #[.int .i64 x.b, .int .i64 x.r] 39 (0, 0))) := Lib.hid (at_alloc rfl)
  have HW0S : Hid ((w.alloc (.cells #[.int .i64 x.b, .int .i64 x.r] 39)).heap.size = w.heap.size + 1) := Lib.hid (by simp)
  clear h
  obtain ⟨R, hR⟩ : ∃ R : Ending → World → Prop, R = fun e w' => (∃ v', e = .returned v' ∧ SAt Ln.cells 2 w' v' (insL x c)) ∧ Below w.heap.size w w' := ⟨_, rfl⟩
  rw [← hR]
  have HR := Lib.hid hR
  clear hR
  go_enter Try.func47, Try.ntmps47
  go_upto_block 0 with fail
  generalize (w.alloc (.cells #[.int .i64 x.b, .int .i64 x.r] 39)) = w0 at HB0 HK4 HW0S ⊢
  have HX : Hid (∀ W, Below w0.heap.size w0 W → W.cell? ⟨w.heap.size, 0, none⟩ = some (.int .i64 x.b) ∧ W.cell? ⟨w.heap.size, 1, none⟩ = some (.int .i64 x.r)) := Lib.hid fun W hW =>
    ⟨bl_cell hW (by rw [cell_blk HK4.out]; rfl), bl_cell hW (by rw [cell_blk HK4.out]; rfl)⟩
  go_cut [5] from 6 to 41 (fun s5 wx => ∃ kk : Nat, s5 = .int .i64 kk ∧ kk ≤ c.length ∧ Aside (c.take kk ++ [x] ++ c.drop kk = insL x c) ∧ Aside (Below w0.heap.size w0 wx))
  case first =>
    go_wp2_with fail
    go_loopg [5] (c.length + 1) (fun gg s5 wr => ∃ kk : Nat, kk ≤ c.length ∧ c.length - kk ≤ gg ∧ s5 = .int .i64 kk ∧ Aside (Below w0.heap.size w0 wr) ∧ Aside (∀ (k : Nat) (y : Ln), k < kk → c[k]? = some y → leLn y x))
    case atStart => exact ⟨0, Nat.zero_le _, by omega, rfl, Below.refl _ _, fun k y hk => absurd hk (Nat.not_lt_zero _)⟩
    case round =>
      obtain ⟨kk, hkk, hgg, rfl, HB, HN⟩ := hrel
      obtain ⟨x0, x1⟩ := HX.out wr HB.out
      have hkz : (0 : Int) ≤ (kk : Int) := by omega
      by_cases hlt : kk < c.length
      · have hltz : (kk : Int) < (c.length : Int) := by omega
        have hgj := HGE.out kk hlt
        generalize c.getD kk Ln0 = y at hgj
        rcases HE.out.below (bl_then HB0.out HB.out) with ⟨h1, h2⟩ | ⟨b, o, c2, h1, _, _, hrow⟩
        · subst h2; simp at hlt
        have hA : A = some ⟨b, o, none⟩ := by injection h1
        obtain ⟨e0, e1⟩ := LnAt.ofRow hrow hgj
        subst hA
        have HGJ := Lib.hid hgj
        clear hgj hrow h1
        by_cases hle : leLn y x
        · have HLE := Lib.hid hle
          have hnext : ∀ (k : Nat) (z : Ln), k < kk + 1 → c[k]? = some z → leLn z x := fun k z hk hz => by
            by_cases e : k = kk
            · subst e; rw [HGJ.out] at hz; cases hz; exact HLE.out
            · exact HN.out k z (by omega) hz
          have HNX := Lib.hid hnext
          clear hnext
          unfold leLn at hle
          by_cases hb : y.b < x.b
          · clear hle
            go_wp2_with fail
            go_quiet (fail)
            go_wp2_with fail
            go_roundg (c.length - (kk + 1))
            case measure => omega
            case rel => exact ⟨kk + 1, by omega, by omega, by go_num, bl_drewN HB.out _, HNX.out⟩
          · have hbe : y.b = x.b := by omega
            have hre : y.r ≤ x.r := by omega
            clear hle
            go_wp2_with fail
            go_quiet (fail)
            go_wp2_with fail
            go_roundg (c.length - (kk + 1))
            case measure => omega
            case rel => exact ⟨kk + 1, by omega, by omega, by go_num, bl_drewN HB.out _, HNX.out⟩
        · have HP : Hid (c.take kk ++ [x] ++ c.drop kk = insL x c) := Lib.hid (insL_at c x kk hkk HN.out (fun z hz => by rw [HGJ.out] at hz; cases hz; exact hle))
          unfold leLn at hle
          have hb : decide (y.b < x.b) = false := decide_eq_false (by omega)
          by_cases hbe : y.b = x.b
          · have hre : ¬ y.r ≤ x.r := by omega
            have hre2 : decide (y.r ≤ x.r) = false := decide_eq_false hre
            clear hle
            go_wp2_with fail
            go_quiet (fail)
            go_wp2_with fail
            go_meet
            case rel => exact ⟨kk, rfl, hkk, HP.out, bl_drewN HB.out _⟩
          · have hbf : (y.b == x.b) = false := beq_eq_false_iff_ne.2 hbe
            clear hle
            go_wp2_with fail
            go_quiet (fail)
            go_wp2_with fail
            go_meet
            case rel => exact ⟨kk, rfl, hkk, HP.out, bl_drewN HB.out _⟩
      · have hltz : decide ((kk : Int) < (c.length : Int)) = false := decide_eq_false (by omega)
        have HP : Hid (c.take kk ++ [x] ++ c.drop kk = insL x c) := Lib.hid (insL_at c x kk hkk HN.out (fun z hz => by have := (List.getElem?_eq_some_iff.1 hz).1; omega))
        go_wp2_with fail
        go_quiet (fail)
        go_wp2_with fail
        go_meet
        case rel => exact ⟨kk, rfl, hkk, HP.out, bl_drewN HB.out _⟩
  case rest =>
    obtain ⟨kk, rfl, hkk, HP, HB⟩ := hcut
    obtain ⟨v1, hr1, hs1⟩ := run_slice_to elCv HE.out kk hkk
    obtain ⟨v2, hr2, hs2⟩ := run_slice_from elCv HE.out kk hkk
    have HS1 := Lib.hid hs1
    have HS2 := Lib.hid hs2
    clear hs1 hs2
    obtain ⟨x0, x1⟩ := HX.out wc HB.out
    have hzc := HB.out.size
    have hz0 := HW0S.out
    have hq00 : w.heap.size < wc.heap.size := by omega
    go_upto_region 4 with fail
    go_region_law (first
      | (refine step_app rfl _ (.tmp 44) rfl elCv (fun _ => rfl) ln_one (n := 0) (xs := ([] : List Ln)) (ys := c.take kk) rfl rfl rfl (World.ownsRow_nil _ _ _ _) ?_ (Nat.le_refl _) (by simp [maxLen]; omega) (by simp; omega) ?_; (· exact HS1.out.below (bl_then HB0.out (bl_then HB.out (by repeat (first | exact Below.refl _ _ | refine bl_alloc ?_ _ | refine bl_drew ?_ | refine bl_drewN ?_ _))))); intro v' w' hown1 hb1; generalize hn1 : ([] ++ c.take kk).length = n1 at hown1; have HN1 := Lib.hid hn1; clear hn1; obtain ⟨A1, c1, rfl⟩ := own_form hown1; have hz1 := hb1.size; have hbw1 : Below w0.heap.size w0 w' := HB.out.trans (((show Below wc.heap.size wc _ from by repeat (first | exact Below.refl _ _ | refine bl_alloc ?_ _ | refine bl_drew ?_ | refine bl_drewN ?_ _)).trans (hb1.mono (by simp))).mono hzc); obtain ⟨y0, y1⟩ := HX.out w' hbw1; have hq2 : w.heap.size < w'.heap.size := (by have := hbw1.size; omega))
      | (refine step_app rfl (.tmp 45) (.tmp 47) rfl elCv (fun _ => rfl) ln_one (base := w0.heap.size) (xs := [] ++ c.take kk) (ys := [x]) rfl rfl HN1.out.symm ?_ ?_ ?_ (by simp [maxLen]; omega) (by simp; omega) ?_; (· first | exact own_mono hown1 (by simp; omega) | exact own_mono (hown1.alloc _) (by simp; omega)); (· first | exact (sat_oneL wc x rfl).below (bl_undrew hb1) | exact sat_oneL w' x rfl); (· have := hbw1.size; simp <;> omega); intro v' w2 hown2 hb2; generalize hn2 : ([] ++ c.take kk ++ [x]).length = n2 at hown2; have HN2 := Lib.hid hn2; clear hn2; obtain ⟨A2, c2, rfl⟩ := own_form hown2; have hbw2 : Below w0.heap.size w0 w2 := Below.trans (by first | exact hbw1 | exact hbw1.alloc hbw1.size _) hb2; obtain ⟨z0, z1⟩ := HX.out w2 hbw2; have hq3 : w.heap.size < w2.heap.size := (by have := hbw2.size; omega))
      | (refine step_app rfl (.tmp 48) (.tmp 51) rfl elCv (fun _ => rfl) ln_one (base := w0.heap.size) (xs := [] ++ c.take kk ++ [x]) (ys := c.drop kk) rfl rfl HN2.out.symm hown2 ?_ hbw2.size (by simp [maxLen]; omega) (by simp; omega) ?_; (· exact HS2.out.below (bl_then HB0.out hbw2)); intro v' w3 hown3 hb3; generalize hn3 : ([] ++ c.take kk ++ [x] ++ c.drop kk).length = n3 at hown3; have HN3 := Lib.hid hn3; clear hn3; obtain ⟨A3, c3, rfl⟩ := own_form hown3; have hbw3 : Below w0.heap.size w0 w3 := hbw2.trans hb3; obtain ⟨u0, u1⟩ := HX.out w3 hbw3))
    all_goals
      have hfin : SAt Ln.cells 2 w3 (.slice A3 n3 c3) (insL x c) := by
        have := hown3
        rw [List.nil_append, HP.out] at this
        have h3 := HN3.out
        rw [List.nil_append, HP.out] at h3
        exact SAt.ofOwn (enc := Ln.cells) (fun _ => rfl) h3 this
      have HF := Lib.hid (And.intro hfin (bl_then HB0.out hbw3))
      clear hfin hown3 hown2 hown1 hb1 hb2 hb3 hbw1 hbw2 hbw3
      go_wp2_with fail
      go_ret
      rw [HR.out]
      exact ⟨⟨_, rfl, HF.out.1⟩, HF.out.2⟩
end Go.Proofs.Ytmkjiflliejjjaa
