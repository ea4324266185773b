/- Ledger: what a ledger is in memory; taken. -/
import Derived.Test.YtfnijjjfodpnnaaLedB
import Derived.Test.YtfnijjjfodpnnaaRange
import Derived.IntWalk
namespace Go.Proofs.Ytfnijjjfodpnnaa
open Go.RowKit Go.Shelf

def enc1 (n : Int) : Value := .int .i64 n
theorem klaw1 : KLaw Try.prog 2 enc1 := klaw_int Try.underlying2
def enL (es : List En) : List (Int × Value) := es.map fun e => (e.i, e.val)
/-- Block p is a ledger whose map is block r. -/
def LedgerAt (w : World) (p r : Nat) (share room : Int) (es : List En) (gs : List Ling) : Prop :=
  ∃ v, w.heap[p]? = some (.cells #[.int .i64 share, .int .i64 room, .map (some r), v] 65 (0, 0)) ∧ SAt Ling.cells 2 w v gs ∧ MapOf enc1 w r (enL es)
theorem LedgerAt.below {w W : World} {p r : Nat} {share room : Int} {es : List En} {gs : List Ling} (h : LedgerAt w p r share room es gs) (hb : Below w.heap.size w W) : LedgerAt W p r share room es gs := by
  obtain ⟨v, h1, h2, h3⟩ := h
  exact ⟨v, (hb.block p (Array.getElem?_eq_some_iff.1 h1).1).trans h1, h2.below hb, h3.below hb⟩
theorem LedgerAt.lt {w : World} {p r : Nat} {share room : Int} {es : List En} {gs : List Ling} (h : LedgerAt w p r share room es gs) : p < w.heap.size ∧ r < w.heap.size ∧ p ≠ r := by
  obtain ⟨v, h1, h2, h3⟩ := h
  refine ⟨(Array.getElem?_eq_some_iff.1 h1).1, h3.lt, fun e => ?_⟩
  subst e
  obtain ⟨es, c, hb, _⟩ := h3
  rw [h1] at hb
  cases hb
/-- Sums of rates and rooms. -/
def sumR : List En → Int
  | [] => 0
  | e :: l => e.r + sumR l
def sumM : List En → Int
  | [] => 0
  | e :: l => e.m + sumM l
def sumG : List Ling → Int
  | [] => 0
  | g :: l => g.r + sumG l
theorem sumR_perm {a b : List En} (h : a.Perm b) : sumR a = sumR b := by
  induction h with
  | nil => rfl
  | cons x _ ih => simp only [sumR, ih]
  | swap x y l => simp only [sumR]; omega
  | trans _ _ h1 h2 => exact h1.trans h2
theorem sumM_perm {a b : List En} (h : a.Perm b) : sumM a = sumM b := by
  induction h with
  | nil => rfl
  | cons x _ ih => simp only [sumM, ih]
  | swap x y l => simp only [sumM]; omega
  | trans _ _ h1 h2 => exact h1.trans h2
theorem sumR_append (a b : List En) : sumR (a ++ b) = sumR a + sumR b := by
  induction a with
  | nil => simp [sumR]
  | cons x a ih => simp only [List.cons_append, sumR, ih]; omega
theorem sumM_append (a b : List En) : sumM (a ++ b) = sumM a + sumM b := by
  induction a with
  | nil => simp [sumM]
  | cons x a ih => simp only [List.cons_append, sumM, ih]; omega
theorem sumG_append (a b : List Ling) : sumG (a ++ b) = sumG a + sumG b := by
  induction a with
  | nil => simp [sumG]
  | cons x a ih => simp only [List.cons_append, sumG, ih]; omega
structure Fine (es : List En) (gs : List Ling) : Prop where
  e : ∀ x ∈ es, 0 ≤ x.r ∧ x.r ≤ 1000000 ∧ 0 ≤ x.m ∧ x.m ≤ 1000000000
  g : ∀ x ∈ gs, 0 ≤ x.r ∧ x.r ≤ 1000000
  el : es.length ≤ 1000
  gl : gs.length ≤ 1000000
theorem sumR_bd {es : List En} (h : ∀ x ∈ es, 0 ≤ x.r ∧ x.r ≤ 1000000 ∧ 0 ≤ x.m ∧ x.m ≤ 1000000000) : 0 ≤ sumR es ∧ sumR es ≤ es.length * 1000000 ∧ 0 ≤ sumM es ∧ sumM es ≤ es.length * 1000000000 := by
  induction es with
  | nil => simp [sumR, sumM]
  | cons x l ih =>
    have h1 := h x (by simp)
    have h2 := ih fun y hy => h y (by simp [hy])
    simp only [sumR, sumM, List.length_cons]
    omega
theorem sumG_bd {gs : List Ling} (h : ∀ x ∈ gs, 0 ≤ x.r ∧ x.r ≤ 1000000) : 0 ≤ sumG gs ∧ sumG gs ≤ gs.length * 1000000 := by
  induction gs with
  | nil => simp [sumG]
  | cons x l ih =>
    have h1 := h x (by simp)
    have h2 := ih fun y hy => h y (by simp [hy])
    simp only [sumG, List.length_cons]
    omega
/-- What is taken at a tick. -/
def takG (gs : List Ling) (now : Int) : Int := sumG (gs.filter fun l => decide (now < l.u))

set_option maxHeartbeats 400000 in
theorem none_no (p : Nat) (r : Nat) (w : World) (h : w.cell? ⟨p, 2, none⟩ = some (.map (some r))) :
    Calls Try.prog 32 #[.pointer (some ⟨p, 0, none⟩)] w fun e w' => e = .returned (.bool false) ∧ w = w' := by
  have k1 := fun (w : World) (a : Option Nat) => run_eql_map_nil (P := Try.prog) w 62 _ _ a Try.underlying62
  go_enter Try.func32, Try.ntmps32
  go_wp2
  go_ret
  exact ⟨rfl, rfl⟩

theorem LedgerAt.cells {w : World} {p r : Nat} {share room : Int} {es : List En} {gs : List Ling} (h : LedgerAt w p r share room es gs) : ∃ v, w.cell? ⟨p, 0, none⟩ = some (.int .i64 share) ∧ w.cell? ⟨p, 1, none⟩ = some (.int .i64 room) ∧ w.cell? ⟨p, 2, none⟩ = some (.map (some r)) ∧ w.cell? ⟨p, 3, none⟩ = some v ∧ SAt Ling.cells 2 w v gs ∧ MapOf enc1 w r (enL es) := by
  obtain ⟨v, h1, h2, h3⟩ := h
  exact ⟨v, by rw [cell_blk h1]; rfl, by rw [cell_blk h1]; rfl, by rw [cell_blk h1]; rfl, by rw [cell_blk h1]; rfl, h2, h3⟩

set_option maxRecDepth 100000 in
set_option maxHeartbeats 1000000 in
theorem taken_any (p r : Nat) (share room : Int) (es : List En) (gs : List Ling) (now : Int) (w : World) (h : LedgerAt w p r share room es gs) (hF : Fine es gs) :
    Calls Try.prog 33 #[.pointer (some ⟨p, 0, none⟩), .int .i64 now] w fun e w' => e = .returned (.tuple #[.int .i64 (sumR es + takG gs now), .int .i64 (sumM es)]) ∧ Below w.heap.size w w' := by
  obtain ⟨v, c0, c1, c2, c3, hs, hm⟩ := h.cells
  have hps : p < w.heap.size := h.lt.1
  have hw1 := bl_alloc (Below.refl w.heap.size w) (.cells #[.int .i64 now] 2)
  obtain ⟨o, hrange, hR⟩ := run_range (P := Try.prog) Try.underlying62 (hm.below hw1)
  have H := Lib.hid h
  have HS := Lib.hid hs
  have HR := Lib.hid hR
  have HW1 := Lib.hid hw1
  clear h hs hR hm hw1
  go_enter Try.func33, Try.ntmps33
  go_wp2_with fail
  have hn0 : ((w.alloc (.cells #[.int .i64 now] 2)).alloc o).cell? ⟨w.heap.size, 0, none⟩ = some (.int .i64 now) := by go_simp
  generalize hW0 : (w.alloc (.cells #[.int .i64 now] 2)).alloc o = W0 at hn0 ⊢
  have hW0b : Below w.heap.size w W0 := hW0 ▸ bl_alloc HW1.out _
  have hW0s : W0.heap.size = w.heap.size + 2 := by rw [← hW0]; simp
  have hR0 : RangeAt enc1 W0 r (w.heap.size + 1) (enL es) (enL es) := by rw [← hW0]; simpa using HR.out
  have HW0 := Lib.hid hW0b
  have HS0 := Lib.hid hW0s
  have HR0 := Lib.hid hR0
  have HN0 := Lib.hid hn0
  clear hW0 hW0b hW0s hR0 hrange hn0
  go_loopg [4, 5] es.length (fun gg s4 s5 wr => ∃ dn lf : List En, lf.length ≤ gg ∧ s4 = .int .i64 (sumR dn) ∧ s5 = .int .i64 (sumM dn) ∧ Aside ((dn ++ lf).Perm es) ∧ Aside (RangeAt enc1 wr r (w.heap.size + 1) (enL es) (enL lf)) ∧ Aside (Below (w.heap.size + 1) W0 wr))
  case atStart => exact ⟨[], es, Nat.le_refl _, rfl, rfl, List.Perm.refl _, HR0.out, Below.refl _ _⟩
  case round =>
    obtain ⟨dn, lf, hgg, rfl, rfl, HP, HRG, HB⟩ := hrel
    rcases run_next (P := Try.prog) HRG.out with ⟨hl, hrun⟩ | ⟨k, v', i, w2, hi, hrun, hR2, hent, hg2, hsz2⟩
    · have hlf : lf = [] := by cases lf with | nil => rfl | cons a b => simp [enL] at hl
      subst hlf
      have hp := HP.out
      rw [List.append_nil] at hp
      have e1 := sumR_perm hp
      have e2 := sumM_perm hp
      have HE1 := Lib.hid e1
      have HE2 := Lib.hid e2
      have hbw : Below w.heap.size w wr := HW0.out.trans (HB.out.mono (by omega))
      have c3r := bl_cell hbw c3
      have hnr : wr.cell? ⟨w.heap.size, 0, none⟩ = some (.int .i64 now) := (HB.out.cell (p := ⟨w.heap.size, 0, none⟩) (by show w.heap.size < w.heap.size + 1; omega)).trans HN0.out
      have hsv := sieved_any gs v now w.heap.size wr (HS.out.below hbw) (by have := hF.gl; omega) hnr
      have HBW := Lib.hid hbw
      have HF := Lib.hid hF
      have hgl := List.length_filter_le (fun l : Ling => decide (now < l.u)) gs
      have hgl2 := hF.gl
      have hsb := sumR_bd hF.e
      have hel := hF.el
      clear hl hp e1 e2 hgg HP hbw hF hnr c0 c1 c2 c3
      go_wp2_with fail
      refine hsv.mono ?_
      rintro e w3 ⟨v3, rfl, hs3, hb3⟩
      obtain ⟨A3, c3', rfl⟩ := hs3.slice
      have HS3 := Lib.hid hs3
      have hgf : ∀ y ∈ gs.filter (fun l => decide (now < l.u)), 0 ≤ y.r ∧ y.r ≤ 1000000 := fun y hy => HF.out.g y (List.mem_filter.1 hy).1
      generalize hfs : gs.filter (fun l => decide (now < l.u)) = fs at HS3 hgf hgl ⊢
      have HFS := Lib.hid hfs
      have HGF := Lib.hid hgf
      have HB3 := Lib.hid hb3
      have HGE : Hid (∀ j, j < fs.length → fs[j]? = some (fs.getD j Ling0)) := Lib.hid fun j hj => by simp [List.getD, hj]
      have hsd := HE1.out
      rw [← hsd] at hsb
      obtain ⟨sb1, sb2, -, -⟩ := hsb
      have sb3 : sumR dn ≤ 1000000000 := by omega
      have hfl : fs.length ≤ 1000000 := by omega
      clear hsv hs3 hb3 hgf hfs hsd sb2
      go_wp2_with fail
      go_loopg [4, 34] fs.length (fun gg s4 s34 wr => ∃ kk : Nat, kk ≤ fs.length ∧ fs.length - kk ≤ gg ∧ s34 = .int .i64 kk ∧ s4 = .int .i64 (sumR dn + sumG (fs.take kk)) ∧ Aside (Below w3.heap.size w3 wr))
      case atStart => exact ⟨0, Nat.zero_le _, by omega, rfl, by simp [sumG], Below.refl _ _⟩
      case round =>
        obtain ⟨kk, hkk, hgg, rfl, rfl, HB4⟩ := hrel
        by_cases hlt : kk < fs.length
        · have hltz : (kk : Int) < (fs.length : Int) := by omega
          have hgj := HGE.out kk hlt
          generalize fs.getD kk Ling0 = x at hgj
          have hxb := HGF.out x (List.mem_of_getElem? hgj)
          obtain ⟨x1, x2⟩ := hxb
          have hsg := sumG_bd (gs := fs.take kk) fun y hy => HGF.out y (List.mem_of_mem_take hy)
          have htl : (fs.take kk).length ≤ 1000000 := by rw [List.length_take]; omega
          obtain ⟨y1, y2⟩ := hsg
          have y3 : sumG (fs.take kk) ≤ 1000000000000 := by omega
          have hsnoc : sumG (fs.take (kk + 1)) = sumG (fs.take kk) + x.r := by
            rw [List.take_add_one, hgj, sumG_append]
            simp [sumG]
          have HSN := Lib.hid hsnoc
          rcases HS3.out.below HB4.out with ⟨h1, h2⟩ | ⟨b, o, c', h1, _, _, hrow⟩
          · subst h2; simp at hlt
          · have hA : A3 = some ⟨b, o, none⟩ := by injection h1
            obtain ⟨e0, e1⟩ := LingAt.ofRow hrow hgj
            subst hA
            have hbs : b < wr.heap.size := World.block_lt_of_cell? wr ⟨b, o + kk * 2, none⟩ e0
            clear hgj hsnoc hrow h1 htl y2
            generalize sumG (fs.take kk) = sg at HSN y1 y3 ⊢
            go_wp2_with fail
            go_roundg (fs.length - (kk + 1))
            case measure => omega
            case rel => exact ⟨kk + 1, by omega, by omega, by go_num, by rw [HSN.out]; congr 1; omega, bl_alloc HB4.out _⟩
        · have hltz : ¬ (kk : Int) < (fs.length : Int) := by omega
          have hke : kk = fs.length := by omega
          subst hke
          go_wp2_with fail
          go_ret2
          refine ⟨?_, bl_then (bl_then HBW.out HB3.out) HB4.out⟩
          rw [← HE1.out, ← HE2.out, takG, HFS.out]
          simp
    · have hx : ∃ x, lf[i]? = some x ∧ k = x.i ∧ v' = x.val := by
        simp only [enL, List.getElem?_map] at hi
        obtain ⟨x, hx, he⟩ := Option.map_eq_some_iff.1 hi
        simp at he
        exact ⟨x, hx, he.1.symm, he.2.symm⟩
      obtain ⟨x, hx, rfl, rfl⟩ := hx
      have hil : i < lf.length := (List.getElem?_eq_some_iff.1 hx).1
      have hperm := perm_eraseIdx lf i x hx
      have hp2 : ((dn ++ [x]) ++ lf.eraseIdx i).Perm es := by
        refine List.Perm.trans ?_ HP.out
        rw [List.append_assoc]
        exact (hperm.symm).append_left dn
      have hR3 : RangeAt enc1 w2 r (w.heap.size + 1) (enL es) (enL (lf.eraseIdx i)) := by
        have e : enL (lf.eraseIdx i) = (enL lf).eraseIdx i := by unfold enL; exact ChangeMaps.map_eraseIdx _ _ _
        rw [e]
        exact hR2
      have hB2 : Below (w.heap.size + 1) W0 w2 := HB.out.grown hg2 (by have := HB.out.size; have := HS0.out; omega) (by intro k hk; cases hk; omega)
      have hmem : x ∈ es := hp2.mem_iff.1 (by simp)
      have hxb := hF.e x hmem
      have hall : ∀ y ∈ dn ++ [x], 0 ≤ y.r ∧ y.r ≤ 1000000 ∧ 0 ≤ y.m ∧ y.m ≤ 1000000000 := fun y hy => hF.e y (hp2.mem_iff.1 (List.mem_append_left _ hy))
      have hbd := sumR_bd hall
      have hbd0 := sumR_bd (es := dn) fun y hy => hall y (by simp [hy])
      have hlen : (dn ++ [x]).length ≤ 1000 := by
        have h1 := hp2.length_eq
        have h2 := hF.el
        simp only [List.length_append] at h1 ⊢
        omega
      have hdl : dn.length ≤ 1000 := by simp at hlen; omega
      obtain ⟨x1, x2, x3, x4⟩ := hxb
      obtain ⟨b1, b2, b3, b4⟩ := hbd0
      have b5 : sumR dn ≤ 1000000000 := by omega
      have b6 : sumM dn ≤ 1000000000000 := by omega
      have HP2 := Lib.hid hp2
      have HR3 := Lib.hid hR3
      have HB2 := Lib.hid hB2
      clear hi hx hperm hp2 hR2 hR3 hB2 hmem hall hbd hlen HP HRG HB hg2 hsz2
      have hwr1 : IntKind.i64.wrap (sumR dn + x.r) = sumR dn + x.r := IntWalk.i64_in _ (by omega)
      have hwr2 : IntKind.i64.wrap (sumM dn + x.m) = sumM dn + x.m := IntWalk.i64_in _ (by omega)
      go_wp2_with fail
      go_quiet (fail)
      clear hwr1 hwr2
      go_wp2_with fail
      go_roundg (lf.length - 1)
      case measure => omega
      case rel =>
        refine ⟨dn ++ [x], lf.eraseIdx i, by rw [List.length_eraseIdx]; split <;> omega, by rw [sumR_append]; simp [sumR], by rw [sumM_append]; simp [sumM], HP2.out, ?_, ?_⟩
        · exact HR3.out.below (by repeat (first | exact Below.refl _ _ | refine bl_alloc ?_ _ | refine bl_drewN ?_ _ | refine bl_drew ?_))
        · have h1 : Below w2.heap.size w2 (w2.alloc (.cells #[.int .i64 x.i, .int .i64 x.r, .int .i64 x.m] 30)) := bl_alloc (Below.refl _ _) _
          have h2 := HB2.out.size
          have h3 := HS0.out
          exact HB2.out.trans (bl_drewN (h1.mono (by omega)) _)
end Go.Proofs.Ytfnijjjfodpnnaa
