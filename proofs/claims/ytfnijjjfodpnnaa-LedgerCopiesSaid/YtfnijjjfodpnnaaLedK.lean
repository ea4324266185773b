/- Ledger: the document's ledger: Right, tick, Find, Taken, room, Fits. -/
import Derived.Test.YtfnijjjfodpnnaaLedJ
namespace Go.Proofs.Ytfnijjjfodpnnaa
open Go.RowKit Go.Shelf

/-- The document's ledger, as a value. -/
abbrev refV (share room : Int) (ve vl : Value) : Value := .agg #[.int .i64 share, .int .i64 room, ve, vl]
structure RefAt (w : World) (ve vl : Value) (es : List En) (gs : List Ling) : Prop where
  e : SAt En.cells 3 w ve es
  g : SAt Ling.cells 2 w vl gs
theorem RefAt.below {w W : World} {ve vl : Value} {es : List En} {gs : List Ling} (h : RefAt w ve vl es gs) (hb : Below w.heap.size w W) : RefAt W ve vl es gs := ⟨h.e.below hb, h.g.below hb⟩
theorem RefAt.nil (w : World) : RefAt w (.slice none 0 0) (.slice none 0 0) [] [] := ⟨SAt.nil, SAt.nil⟩
theorem EnAt.ofRow {w : World} {b o : Nat} {xs : List En} (h : RowAt En.cells 3 w b o xs) {j : Nat} {x : En} (hj : xs[j]? = some x) : EnAt w b (o + j * 3) x := ⟨h j x hj 0 _ rfl, h j x hj 1 _ rfl, h j x hj 2 _ rfl⟩

set_option maxHeartbeats 400000 in
theorem right_ref (x : En) (w : World) :
    Calls Try.prog 52 #[.agg #[.int .i64 x.i, .int .i64 x.r, .int .i64 x.m]] w fun e w' => e = .returned (.bool (mayB x [])) ∧ Below w.heap.size w w' := by
  unfold mayB wi
  go_enter Try.func52, Try.ntmps52
  go_wp2
  all_goals go_ret
  all_goals (refine ⟨?_, bl_alloc (Below.refl _ _) _⟩; simp_all <;> omega)
set_option maxHeartbeats 400000 in
theorem tick_ref (n : Int) (w : World) :
    Calls Try.prog 53 #[.int .i64 n] w fun e w' => e = .returned (.bool (wi n 0 4611686018427387904)) ∧ w = w' := by
  unfold wi
  go_enter Try.func53, Try.ntmps53
  go_wp2
  all_goals go_ret
  all_goals (refine ⟨?_, rfl⟩; simp_all <;> omega)

def En0 : En := ⟨0, 0, 0⟩
def findN : List En → Int → Int
  | [], _ => -1
  | e :: l, i => if e.i = i then 0 else if findN l i < 0 then -1 else findN l i + 1
theorem findN_hit : ∀ (l : List En) (i : Int) (j : Nat) (x : En), l[j]? = some x → x.i = i → (∀ (k : Nat) (y : En), k < j → l[k]? = some y → y.i ≠ i) → findN l i = j
  | [], _, _, _, h, _, _ => by simp at h
  | y :: l, i, 0, x, h, hx, _ => by simp at h; subst h; simp [findN, hx]
  | y :: l, i, j + 1, x, h, hx, hb => by
    simp at h
    have h0 := hb 0 y (by omega) rfl
    have ih := findN_hit l i j x h hx fun k z hk hz => hb (k + 1) z (by omega) (by simpa using hz)
    simp only [findN, if_neg h0, ih]
    rw [if_neg (by omega)]
    push_cast
    rfl
theorem findN_none : ∀ (l : List En) (i : Int), (∀ (k : Nat) (y : En), l[k]? = some y → y.i ≠ i) → findN l i = -1
  | [], _, _ => rfl
  | y :: l, i, hb => by
    have h0 := hb 0 y rfl
    have ih := findN_none l i fun k z hz => hb (k + 1) z (by simpa using hz)
    simp only [findN, if_neg h0, ih]
    rfl
set_option maxRecDepth 100000 in
set_option maxHeartbeats 400000 in
theorem find_ref (share room : Int) (ve vl : Value) (es : List En) (gs : List Ling) (i : Int) (w : World) (h : RefAt w ve vl es gs) :
    Calls Try.prog 23 #[refV share room ve vl, .int .i64 i] w fun e w' => e = .returned (.int .i64 (findN es i)) ∧ Below w.heap.size w w' := by
  obtain ⟨A, c, rfl⟩ := h.e.slice
  obtain ⟨A', c', rfl⟩ := h.g.slice
  have hlen := h.e.len
  unfold maxLen at hlen
  have HS := Lib.hid h.e
  have HGE : Hid (∀ j, j < es.length → es[j]? = some (es.getD j En0)) := Lib.hid fun j hj => by simp [List.getD, hj]
  have HW0 := Lib.hid (bl_alloc (Below.refl w.heap.size w) (.cells #[.int .i64 share, .int .i64 room, .slice A es.length c, .slice A' gs.length c'] 36))
  clear h
  go_enter Try.func23, Try.ntmps23
  go_wp2_with fail
  go_loopg [5] es.length (fun gg s5 wr => ∃ kk : Nat, kk ≤ es.length ∧ es.length - kk ≤ gg ∧ s5 = .int .i64 kk ∧ Aside (wr = w.alloc (.cells #[.int .i64 share, .int .i64 room, .slice A es.length c, .slice A' gs.length c'] 36)) ∧ Aside (∀ (k : Nat) (y : En), k < kk → es[k]? = some y → y.i ≠ i))
  case atStart => exact ⟨0, Nat.zero_le _, by omega, rfl, rfl, fun k y hk => absurd hk (Nat.not_lt_zero _)⟩
  case round =>
    obtain ⟨kk, hkk, hgg, rfl, HB, HN⟩ := hrel
    have hwr := HB.out
    subst hwr
    by_cases hlt : kk < es.length
    · have hltz : (kk : Int) < (es.length : Int) := by omega
      have hgj := HGE.out kk hlt
      generalize es.getD kk En0 = x at hgj
      rcases HS.out.below HW0.out with ⟨h1, h2⟩ | ⟨b, o, c2, h1, _, _, hrow⟩
      · subst h2; simp at hlt
      · have hA : A = some ⟨b, o, none⟩ := by injection h1
        obtain ⟨e0, e1, e2⟩ := EnAt.ofRow hrow hgj
        subst hA
        have HGJ := Lib.hid hgj
        clear hgj hrow h1 HB
        by_cases hx : x.i = i
        · go_wp2_with fail
          go_ret
          exact ⟨by rw [findN_hit es i kk x HGJ.out hx HN.out]; rfl, HW0.out⟩
        · have hxb : (x.i == i) = false := beq_eq_false_iff_ne.2 hx
          go_wp2_with fail
          go_roundg (es.length - (kk + 1))
          case measure => omega
          case rel =>
            refine ⟨kk + 1, by omega, by omega, by go_num, rfl, (show Aside _ from fun k y hk hy => ?_)⟩
            by_cases e : k = kk
            · subst e
              rw [HGJ.out] at hy
              cases hy
              exact hx
            · exact HN.out k y (by omega) hy
    · have hltz : ¬ (kk : Int) < (es.length : Int) := by omega
      have hke : kk = es.length := by omega
      subst hke
      go_wp2_with fail
      go_ret
      exact ⟨by rw [findN_none es i fun k y hy => HN.out k y (List.getElem?_eq_some_iff.1 hy).1 hy]; rfl, HW0.out⟩

theorem takG_snoc (gs : List Ling) (k : Nat) (x : Ling) (now : Int) (h : gs[k]? = some x) : takG (gs.take (k + 1)) now = takG (gs.take k) now + (if now < x.u then x.r else 0) := by
  unfold takG
  rw [List.take_add_one, h, List.filter_append, sumG_append]
  by_cases hx : now < x.u <;> simp [hx, sumG]
theorem sumR_snoc (es : List En) (k : Nat) (x : En) (h : es[k]? = some x) : sumR (es.take (k + 1)) = sumR (es.take k) + x.r := by
  rw [List.take_add_one, h, sumR_append]; simp [sumR]
theorem sumM_snoc (es : List En) (k : Nat) (x : En) (h : es[k]? = some x) : sumM (es.take (k + 1)) = sumM (es.take k) + x.m := by
  rw [List.take_add_one, h, sumM_append]; simp [sumM]
theorem takG_bd {gs : List Ling} (h : ∀ x ∈ gs, 0 ≤ x.r ∧ x.r ≤ 1000000) (hl : gs.length ≤ 1000000) (now : Int) : 0 ≤ takG gs now ∧ takG gs now ≤ 1000000000000 := by
  have h1 := sumG_bd (gs := gs.filter fun l => decide (now < l.u)) fun x hx => h x (List.mem_filter.1 hx).1
  have h2 := List.length_filter_le (fun l : Ling => decide (now < l.u)) gs
  unfold takG
  omega
set_option maxRecDepth 100000 in
set_option maxHeartbeats 1000000 in
theorem taken_ref (share room : Int) (ve vl : Value) (es : List En) (gs : List Ling) (now : Int) (w : World) (h : RefAt w ve vl es gs) (hF : Fine es gs) :
    Calls Try.prog 24 #[refV share room ve vl, .int .i64 now] w fun e w' => e = .returned (.tuple #[.int .i64 (sumR es + takG gs now), .int .i64 (sumM es)]) ∧ Below w.heap.size w w' := by
  obtain ⟨A, c, rfl⟩ := h.e.slice
  obtain ⟨A', c', rfl⟩ := h.g.slice
  have hl1 := hF.el
  have hl2 := hF.gl
  have HS := Lib.hid h.e
  have HS' := Lib.hid h.g
  have HF := Lib.hid hF
  have HGE : Hid (∀ j, j < es.length → es[j]? = some (es.getD j En0)) := Lib.hid fun j hj => by simp [List.getD, hj]
  have HGG : Hid (∀ j, j < gs.length → gs[j]? = some (gs.getD j Ling0)) := Lib.hid fun j hj => by simp [List.getD, hj]
  have HW0 := Lib.hid (bl_alloc (Below.refl w.heap.size w) (.cells #[.int .i64 share, .int .i64 room, .slice A es.length c, .slice A' gs.length c'] 36))
  have HCE : Hid ((w.alloc (.cells #[.int .i64 share, .int .i64 room, .slice A es.length c, .slice A' gs.length c'] 36)).cell? ⟨w.heap.size, 2, none⟩ = some (.slice A es.length c)) := Lib.hid (by go_simp)
  have HCG : Hid ((w.alloc (.cells #[.int .i64 share, .int .i64 room, .slice A es.length c, .slice A' gs.length c'] 36)).cell? ⟨w.heap.size, 3, none⟩ = some (.slice A' gs.length c')) := Lib.hid (by go_simp)
  clear h hF
  go_enter Try.func24, Try.ntmps24
  go_wp2_with fail
  generalize hW0 : w.alloc (.cells #[.int .i64 share, .int .i64 room, .slice A es.length c, .slice A' gs.length c'] 36) = W0 at HW0 HCE HCG ⊢
  have hW0s : W0.heap.size = w.heap.size + 1 := by rw [← hW0]; simp
  clear hW0
  go_loopg [6, 7, 8] es.length (fun gg s6 s7 s8 wr => ∃ kk : Nat, kk ≤ es.length ∧ es.length - kk ≤ gg ∧ s8 = .int .i64 kk ∧ s6 = .int .i64 (sumR (es.take kk)) ∧ s7 = .int .i64 (sumM (es.take kk)) ∧ Aside (Below W0.heap.size W0 wr))
  case atStart => exact ⟨0, Nat.zero_le _, by omega, rfl, rfl, rfl, Below.refl _ _⟩
  case round =>
    obtain ⟨kk, hkk, hgg, rfl, rfl, rfl, HB⟩ := hrel
    have b2 := bl_cell HB.out HCE.out
    have hs1 := HB.out.size
    by_cases hlt : kk < es.length
    · have hltz : (kk : Int) < (es.length : Int) := by omega
      have hgj := HGE.out kk hlt
      generalize es.getD kk En0 = x at hgj
      have hsn1 := sumR_snoc es kk x hgj
      have hsn2 := sumM_snoc es kk x hgj
      have hbd := sumR_bd (es := es.take kk) fun y hy => HF.out.e y (List.mem_of_mem_take hy)
      have htl : (es.take kk).length ≤ 1000 := by rw [List.length_take]; omega
      obtain ⟨d1, d2, d3, d4⟩ := hbd
      have hxb := HF.out.e x (List.mem_of_getElem? hgj)
      obtain ⟨x1, x2, x3, x4⟩ := hxb
      have d5 : sumR (es.take kk) ≤ 1000000000 := by omega
      have d6 : sumM (es.take kk) ≤ 1000000000000 := by omega
      have HSN1 := Lib.hid hsn1
      have HSN2 := Lib.hid hsn2
      rcases HS.out.below (bl_then HW0.out HB.out) with ⟨h1, h2⟩ | ⟨b, o, c2, h1, _, _, hrow⟩
      · subst h2; simp at hlt
      · have hA : A = some ⟨b, o, none⟩ := by injection h1
        obtain ⟨e0, e1, e2⟩ := EnAt.ofRow hrow hgj
        subst hA
        have hbs : b < wr.heap.size := World.block_lt_of_cell? wr ⟨b, o + kk * 3, none⟩ e0
        clear hgj hrow h1 d2 d4 htl hsn1 hsn2
        generalize sumR (es.take kk) = sr at HSN1 d1 d5 ⊢
        generalize sumM (es.take kk) = sm at HSN2 d3 d6 ⊢
        have hwr1 : IntKind.i64.wrap (sr + x.r) = sr + x.r := IntWalk.i64_in _ (by omega)
        have hwr2 : IntKind.i64.wrap (sm + x.m) = sm + x.m := IntWalk.i64_in _ (by omega)
        go_wp2_with fail
        go_quiet (fail)
        clear hwr1 hwr2
        go_wp2_with fail
        go_roundg (es.length - (kk + 1))
        case measure => omega
        case rel => exact ⟨kk + 1, by omega, by omega, by go_num, by rw [HSN1.out], by rw [HSN2.out], bl_drewN HB.out _⟩
    · have hltz : ¬ (kk : Int) < (es.length : Int) := by omega
      have hke : kk = es.length := by omega
      subst hke
      simp only [List.take_length]
      have hbd := sumR_bd HF.out.e
      obtain ⟨d1, d2, d3, d4⟩ := hbd
      have d5 : sumR es ≤ 1000000000 := by omega
      generalize hsr : sumR es = sr at d1 d2 d5 ⊢
      generalize hsm : sumM es = sm at d3 d4 ⊢
      have HSR := Lib.hid hsr
      have HSM := Lib.hid hsm
      clear hsr hsm d2 d3 d4
      go_wp2_with fail
      go_loopg [6, 9] gs.length (fun gg s6 s9 wr => ∃ kk : Nat, kk ≤ gs.length ∧ gs.length - kk ≤ gg ∧ s9 = .int .i64 kk ∧ s6 = .int .i64 (sr + takG (gs.take kk) now) ∧ Aside (Below W0.heap.size W0 wr))
      case atStart => exact ⟨0, Nat.zero_le _, by omega, rfl, by simp [takG, sumG], HB.out⟩
      case round =>
        obtain ⟨k2, hk2, hg2, rfl, rfl, HB2⟩ := hrel
        have b3 := bl_cell HB2.out HCG.out
        have hs2 := HB2.out.size
        by_cases hlt : k2 < gs.length
        · have hltz : (k2 : Int) < (gs.length : Int) := by omega
          have hgj := HGG.out k2 hlt
          generalize gs.getD k2 Ling0 = x at hgj
          have hsn := takG_snoc gs k2 x now hgj
          have hbd := takG_bd (gs := gs.take k2) (fun y hy => HF.out.g y (List.mem_of_mem_take hy)) (by rw [List.length_take]; omega) now
          obtain ⟨t1, t2⟩ := hbd
          obtain ⟨x1, x2⟩ := HF.out.g x (List.mem_of_getElem? hgj)
          have HSN := Lib.hid hsn
          rcases HS'.out.below (bl_then HW0.out HB2.out) with ⟨h1, h2⟩ | ⟨b, o, c2, h1, _, _, hrow⟩
          · subst h2; simp at hlt
          · have hA : A' = some ⟨b, o, none⟩ := by injection h1
            obtain ⟨e0, e1⟩ := LingAt.ofRow hrow hgj
            subst hA
            have hbs : b < wr.heap.size := World.block_lt_of_cell? wr ⟨b, o + k2 * 2, none⟩ e0
            clear hgj hrow h1 hsn
            generalize takG (gs.take k2) now = tg at HSN t1 t2 ⊢
            by_cases hlater : now < x.u
            · go_wp2_with fail
              go_roundg (gs.length - (k2 + 1))
              case measure => omega
              case rel => exact ⟨k2 + 1, by omega, by omega, by go_num, by rw [HSN.out, if_pos hlater]; congr 1; omega, HB2.out⟩
            · go_wp2_with fail
              go_roundg (gs.length - (k2 + 1))
              case measure => omega
              case rel => exact ⟨k2 + 1, by omega, by omega, by go_num, by rw [HSN.out, if_neg (by omega)]; congr 1; omega, HB2.out⟩
        · have hltz : ¬ (k2 : Int) < (gs.length : Int) := by omega
          have hke : k2 = gs.length := by omega
          subst hke
          simp only [List.take_length]
          go_wp2_with fail
          go_ret2
          exact ⟨by rw [HSR.out, HSM.out]; rfl, bl_then HW0.out HB2.out⟩

def roomY (share room : Int) (es : List En) (gs : List Ling) (x : En) (now : Int) : Int := if share < sumR es + takG gs now + x.r then 271 else if room < sumM es + x.m then 272 else 0
set_option maxRecDepth 100000 in
set_option maxHeartbeats 400000 in
theorem room_ref (share room : Int) (ve vl : Value) (es : List En) (gs : List Ling) (x : En) (now : Int) (w : World) (h : RefAt w ve vl es gs) (hF : Fine es gs) (hx : 1 ≤ x.r ∧ x.r ≤ 1000000 ∧ 0 ≤ x.m ∧ x.m ≤ 1000000000) :
    Calls Try.prog 54 #[refV share room ve vl, .agg #[.int .i64 x.i, .int .i64 x.r, .int .i64 x.m], .int .i64 now] w fun e w' => e = .returned (.int .i64 (roomY share room es gs x now)) ∧ Below w.heap.size w w' := by
  obtain ⟨A, c, rfl⟩ := h.e.slice
  obtain ⟨A', c', rfl⟩ := h.g.slice
  have hb1 := bl_alloc (bl_alloc (Below.refl w.heap.size w) (.cells #[.int .i64 share, .int .i64 room, .slice A es.length c, .slice A' gs.length c'] 36)) (.cells #[.int .i64 x.i, .int .i64 x.r, .int .i64 x.m] 30)
  have ht := taken_ref share room _ _ es gs now _ (h.below hb1) hF
  have hbd := sumR_bd hF.e
  have hel := hF.el
  have hgb := takG_bd hF.g hF.gl now
  obtain ⟨d1, d2, d3, d4⟩ := hbd
  obtain ⟨t1, t2⟩ := hgb
  obtain ⟨x1, x2, x3, x4⟩ := hx
  have d5 : sumR es ≤ 1000000000 := by omega
  have d6 : sumM es ≤ 1000000000000 := by omega
  have HB1 := Lib.hid hb1
  unfold roomY
  generalize sumR es = sr at ht d1 d2 d5 ⊢
  generalize sumM es = sm at ht d3 d4 d6 ⊢
  generalize takG gs now = tg at ht t1 t2 ⊢
  clear h hF hb1 d2 d4
  go_enter Try.func54, Try.ntmps54
  go_wp2_with fail
  refine ht.mono ?_
  rintro e w1 ⟨rfl, hb⟩
  have l0 : w1.cell? ⟨w.heap.size, 0, none⟩ = some (.int .i64 share) := bl_cell hb (by go_simp)
  have l1 : w1.cell? ⟨w.heap.size, 1, none⟩ = some (.int .i64 room) := bl_cell hb (by go_simp)
  have x1' : w1.cell? ⟨w.heap.size + 1, 1, none⟩ = some (.int .i64 x.r) := bl_cell hb (by go_simp)
  have x2' : w1.cell? ⟨w.heap.size + 1, 2, none⟩ = some (.int .i64 x.m) := bl_cell hb (by go_simp)
  have hbw : Below w.heap.size w w1 := HB1.out.trans (hb.mono (by simp <;> omega))
  clear ht hb
  go_wp2_with fail
  all_goals go_ret
  all_goals (refine ⟨?_, hbw⟩; simp [*] <;> omega)

def fitsY (share room : Int) (es : List En) (gs : List Ling) (x : En) (now : Int) : Int := if (mayB x [] && wi now 0 4611686018427387904) = false then 2 else if 0 ≤ findN es x.i then 210 else if (32 : Int) ≤ es.length then 270 else roomY share room es gs x now
set_option maxRecDepth 100000 in
set_option maxHeartbeats 400000 in
theorem fits_ref (share room : Int) (ve vl : Value) (es : List En) (gs : List Ling) (x : En) (now : Int) (w : World) (h : RefAt w ve vl es gs) (hF : Fine es gs) :
    Calls Try.prog 28 #[refV share room ve vl, .agg #[.int .i64 x.i, .int .i64 x.r, .int .i64 x.m], .int .i64 now] w fun e w' => e = .returned (.int .i64 (fitsY share room es gs x now)) ∧ Below w.heap.size w w' := by
  obtain ⟨A, c, rfl⟩ := h.e.slice
  obtain ⟨A', c', rfl⟩ := h.g.slice
  have hb1 := bl_alloc (bl_alloc (Below.refl w.heap.size w) (.cells #[.int .i64 share, .int .i64 room, .slice A es.length c, .slice A' gs.length c'] 36)) (.cells #[.int .i64 x.i, .int .i64 x.r, .int .i64 x.m] 30)
  have hlen := hF.el
  have H := Lib.hid h
  have HF := Lib.hid hF
  have HB1 := Lib.hid hb1
  unfold fitsY
  have hr : Hid (mayB x [] = true → ∀ W, Below w.heap.size w W → Calls Try.prog 54 #[refV share room (.slice A es.length c) (.slice A' gs.length c'), .agg #[.int .i64 x.i, .int .i64 x.r, .int .i64 x.m], .int .i64 now] W fun e w' => e = .returned (.int .i64 (roomY share room es gs x now)) ∧ Below W.heap.size W w') :=
    Lib.hid fun hm W hW => room_ref share room _ _ es gs x now W (H.out.below hW) HF.out (by have := mayB_bd hm; omega)
  generalize roomY share room es gs x now = ry at hr ⊢
  generalize hfn : findN es x.i = fn
  have HFN := Lib.hid hfn
  clear h hF hb1 hfn
  cases hq1 : mayB x []
  all_goals cases hq2 : wi now 0 4611686018427387904
  all_goals
    have HQ1 := Lib.hid hq1
    have HQ2 := Lib.hid hq2
    clear hq1 hq2
    go_enter Try.func28, Try.ntmps28
    go_wp2_with fail
    refine (right_ref x _).mono ?_
    rintro e w1 ⟨rfl, hb⟩
    rw [HQ1.out]
    have l0 : w1.cell? ⟨w.heap.size, 0, none⟩ = some (.int .i64 share) := bl_cell hb (by go_simp)
    have l1 : w1.cell? ⟨w.heap.size, 1, none⟩ = some (.int .i64 room) := bl_cell hb (by go_simp)
    have l2 : w1.cell? ⟨w.heap.size, 2, none⟩ = some (.slice A es.length c) := bl_cell hb (by go_simp)
    have l3 : w1.cell? ⟨w.heap.size, 3, none⟩ = some (.slice A' gs.length c') := bl_cell hb (by go_simp)
    have x0' : w1.cell? ⟨w.heap.size + 1, 0, none⟩ = some (.int .i64 x.i) := bl_cell hb (by go_simp)
    have x1' : w1.cell? ⟨w.heap.size + 1, 1, none⟩ = some (.int .i64 x.r) := bl_cell hb (by go_simp)
    have x2' : w1.cell? ⟨w.heap.size + 1, 2, none⟩ = some (.int .i64 x.m) := bl_cell hb (by go_simp)
    have hbw : Below w.heap.size w w1 := HB1.out.trans (hb.mono (by simp <;> omega))
    have HBW := Lib.hid hbw
    clear hb hbw
  iterate 2
    · go_wp2_with (go_at_call 53; refine (tick_ref _ _).mono ?_; rintro e w' ⟨rfl, rfl⟩; rw [HQ2.out])
      go_ret
      exact ⟨rfl, HBW.out⟩
  · go_wp2_with (go_at_call 53; refine (tick_ref _ _).mono ?_; rintro e w' ⟨rfl, rfl⟩; rw [HQ2.out])
    go_ret
    exact ⟨rfl, HBW.out⟩
  · go_wp2_with (go_at_call 53; refine (tick_ref _ _).mono ?_; rintro e w' ⟨rfl, rfl⟩; rw [HQ2.out])
    refine (find_ref share room _ _ es gs x.i _ (H.out.below HBW.out)).mono ?_
    rintro e w2 ⟨rfl, hb2⟩
    rw [HFN.out]
    have m0 := bl_cell hb2 l0
    have m1 := bl_cell hb2 l1
    have m2 := bl_cell hb2 l2
    have m3 := bl_cell hb2 l3
    have y0 := bl_cell hb2 x0'
    have y1 := bl_cell hb2 x1'
    have y2 := bl_cell hb2 x2'
    have HB2 := Lib.hid hb2
    clear hb2 l0 l1 l2 l3 x0' x1' x2'
    by_cases hfp : 0 ≤ fn
    · go_wp2_with fail
      go_ret
      exact ⟨by simp, bl_then HBW.out HB2.out⟩
    · by_cases h32 : (32 : Int) ≤ es.length
      · go_wp2_with fail
        go_ret
        exact ⟨by simp, bl_then HBW.out HB2.out⟩
      · go_wp2_with fail
        refine (hr.out HQ1.out _ (bl_then HBW.out HB2.out)).mono ?_
        rintro e w3 ⟨rfl, hb3⟩
        go_wp2_with fail
        go_ret
        exact ⟨by simp, bl_then (bl_then HBW.out HB2.out) hb3⟩
end Go.Proofs.Ytfnijjjfodpnnaa
