/- Ledger: same. -/
import Derived.Test.YtfnijjjfodpnnaaLedAH
import Derived.Test.YtfnijjjfodpnnaaLedZ
namespace Go.Proofs.Ytfnijjjfodpnnaa
open Go.RowKit Go.Shelf
set_option linter.unusedVariables false
set_option linter.unusedSimpArgs false
theorem sorted_unique : ∀ (er ys : List En), ys.Perm er → er.Pairwise (fun a b => a.i < b.i) → ys.Pairwise (fun a b => a.i ≤ b.i) → ys = er
  | [], ys, h, _, _ => List.Perm.eq_nil h
  | x :: l, [], h, _, _ => absurd h.length_eq (by simp)
  | x :: l, y :: ys, h, h1, h2 => by
    rw [List.pairwise_cons] at h1 h2
    have hyx : y = x := by
      have hy : y ∈ x :: l := h.mem_iff.1 (by simp)
      have hx : x ∈ y :: ys := h.mem_iff.2 (by simp)
      rcases List.mem_cons.1 hy with e | hy
      · exact e
      · rcases List.mem_cons.1 hx with e | hx
        · exact e.symm
        · have := h1.1 y hy
          have := h2.1 x hx
          omega
    subst hyx
    rw [sorted_unique l ys h.cons_inv h1.2 h2.2]
theorem Linked.all {er es ys : List En} (h : Linked er es) (hp : ys.Perm es) (hs : SortedBy cmpEn ys) : ys = er :=
  sorted_unique er ys (hp.trans h.perm.symm) h.sorted (hs.imp fun {a b} hab => by
    have : ¬ b.i < a.i := fun hlt => hab ((cmpI_lt b.i a.i).2 hlt)
    omega)
set_option maxRecDepth 100000 in
set_option maxHeartbeats 1000000 in
theorem sameEntries_yes (va vb : Value) (xs : List En) (w : World) (ha : SAt En.cells 3 w va xs) (hb : SAt En.cells 3 w vb xs) :
    Calls Try.prog 25 #[va, vb] w fun e w' => e = .returned (.bool true) ∧ Below w.heap.size w w' := by
  obtain ⟨A, c, rfl⟩ := ha.slice
  obtain ⟨B, d, rfl⟩ := hb.slice
  have hlen := ha.len
  unfold maxLen at hlen
  have HA := Lib.hid ha
  have HB := Lib.hid hb
  have HGE : Hid (∀ j, j < xs.length → xs[j]? = some (xs.getD j En0)) := Lib.hid fun j hj => by simp [List.getD, hj]
  clear ha hb
  go_enter Try.func25, Try.ntmps25
  go_wp2_with fail
  go_loopg [5] xs.length (fun gg s5 wr => ∃ kk : Nat, kk ≤ xs.length ∧ xs.length - kk ≤ gg ∧ s5 = .int .i64 kk ∧ Aside (Below w.heap.size w wr))
  case atStart => exact ⟨0, Nat.zero_le _, by omega, rfl, Below.refl _ _⟩
  case round =>
    obtain ⟨kk, hkk, hgg, rfl, HW⟩ := hrel
    by_cases hlt : kk < xs.length
    · have hltz : (kk : Int) < (xs.length : Int) := by omega
      have hkz : (0 : Int) ≤ (kk : Int) := by omega
      have hgj := HGE.out kk hlt
      generalize xs.getD kk En0 = x at hgj
      rcases HA.out.below HW.out with ⟨h1, h2⟩ | ⟨b, o, c2, h1, _, _, hrow⟩
      · subst h2; simp at hlt
      rcases HB.out.below HW.out with ⟨g1, g2⟩ | ⟨b', o', c3, g1, _, _, hrow'⟩
      · subst g2; simp at hlt
      have hA : A = some ⟨b, o, none⟩ := by injection h1
      have hB : B = some ⟨b', o', none⟩ := by injection g1
      obtain ⟨e0, e1, e2⟩ := EnAt.ofRow hrow hgj
      obtain ⟨d0, d1, d2⟩ := EnAt.ofRow hrow' hgj
      subst hA
      subst hB
      have hneq := fun w => run_neq_en x x w
      rw [sameEn_self] at hneq
      clear hgj hrow hrow' h1 g1
      go_wp2_with fail
      go_quiet (fail)
      go_wp2_with fail
      go_roundg (xs.length - (kk + 1))
      case measure => omega
      case rel => exact ⟨kk + 1, by omega, by omega, by go_num, HW.out.trans (by repeat (first | exact Below.refl _ _ | refine bl_drew ?_ | refine bl_drewN ?_ _))⟩
    · have hltz : ¬ (kk : Int) < (xs.length : Int) := by omega
      go_wp2_with fail
      go_ret
      exact ⟨rfl, HW.out⟩
set_option maxRecDepth 100000 in
set_option maxHeartbeats 1000000 in
theorem same_any (p r : Nat) (share room : Int) (es er : List En) (gs : List Ling) (ve vl : Value) (n : Nat) (now : Int) (w : World) (h : Both w p r share room es er gs ve vl n) (hw : wi now 0 4611686018427387904 = true) :
    Calls Try.prog 22 #[.pointer (some ⟨p, 0, none⟩), refV share room ve vl, .int .i64 now] w fun e w' => e = .returned (.bool true) ∧ Below w.heap.size w w' := by
  obtain ⟨A, c, rfl⟩ := h.ref.e.slice
  obtain ⟨A', c', rfl⟩ := h.ref.g.slice
  have hF := h.sane.fine
  have hFr := h.link.fine hF
  have hb1 := bl_alloc (Below.refl w.heap.size w) (.cells #[.int .i64 share, .int .i64 room, .slice A er.length c, .slice A' gs.length c'] 36)
  have htl := taken_led p r share room es gs now _ (h.led.below hb1) hF
  simp only [hw, if_true] at htl
  have HTR : Hid (∀ W, Below w.heap.size w W → Calls Try.prog 24 #[refV share room (.slice A er.length c) (.slice A' gs.length c'), .int .i64 now] W fun e w' => e = .returned (.tuple #[.int .i64 (sumR es + takG gs now), .int .i64 (sumM es)]) ∧ Below W.heap.size W w') := Lib.hid fun W hW => by
    have := taken_ref share room _ _ er gs now W (h.ref.below hW) hFr
    rw [sumR_perm h.link.perm, sumM_perm h.link.perm] at this
    exact this
  have H := Lib.hid h
  have HB1 := Lib.hid hb1
  generalize sumR es + takG gs now = ra at htl HTR
  generalize sumM es = rb at htl HTR
  clear h hF hFr hb1
  go_enter Try.func22, Try.ntmps22
  go_wp2_with fail
  refine htl.mono ?_
  rintro e w2 ⟨rfl, hb2⟩
  have l0 : w2.cell? ⟨w.heap.size, 0, none⟩ = some (.int .i64 share) := bl_cell hb2 (by go_simp)
  have l1 : w2.cell? ⟨w.heap.size, 1, none⟩ = some (.int .i64 room) := bl_cell hb2 (by go_simp)
  have l2 : w2.cell? ⟨w.heap.size, 2, none⟩ = some (.slice A er.length c) := bl_cell hb2 (by go_simp)
  have l3 : w2.cell? ⟨w.heap.size, 3, none⟩ = some (.slice A' gs.length c') := bl_cell hb2 (by go_simp)
  have HBW : Hid (Below w.heap.size w w2) := Lib.hid (HB1.out.trans (hb2.mono (by simp)))
  clear htl hb2
  go_wp2_with fail
  refine (HTR.out w2 HBW.out).mono ?_
  rintro e w3 ⟨rfl, hb3⟩
  have HX : Hid (∀ W, Below w3.heap.size w3 W → (fun w' => w'.cell? ⟨w.heap.size, 2, none⟩ = some (.slice A er.length c)) W) := Lib.hid fun W hW => bl_cell hW (bl_cell hb3 l2)
  have HBW3 : Hid (Below w.heap.size w w3) := Lib.hid (bl_then HBW.out hb3)
  clear hb3 l0 l1 l2 l3
  go_upto_region 3 with fail
  first
  | go_region_held3 (fun w' => w'.cell? ⟨w.heap.size, 2, none⟩ = some (.slice A er.length c))
      (exact HX.out _ (by solve | exact hbw5 | exact hbw4 | exact bl_drew (Below.refl _ _)))
      (first
        | (go_at_call 20; refine (all_led p r share room es gs _ (H.out.led.below (bl_then HBW3.out (bl_drew (Below.refl _ _)))) (by have := H.out.sane.el; omega)).mono ?_; rintro e w4 ⟨⟨v4, ys, rfl, hpy, hsy, hsat⟩, hb4⟩; have hbw4 : Below w3.heap.size w3 w4 := (bl_drew (Below.refl _ _)).trans hb4; obtain rfl := H.out.link.all hpy hsy; obtain ⟨A4, c4, rfl⟩ := hsat.slice; have HSAT := Lib.hid hsat; clear hpy hsy hsat)
        | (go_at_call 25; refine (sameEntries_yes _ _ _ _ HSAT.out (H.out.ref.e.below (bl_then HBW3.out hbw4))).mono ?_; rintro e w5 ⟨rfl, hb5⟩; have hbw5 : Below w3.heap.size w3 w5 := bl_then hbw4 hb5))
  | fail "held3"
  all_goals
    have HF5 := Lib.hid (bl_then HBW3.out hbw5)
    clear hbw5 hbw4 hb5 hb4
    go_wp2_with fail
    go_ret
    exact ⟨rfl, HF5.out⟩
end Go.Proofs.Ytfnijjjfodpnnaa
