/- Ledger: first, the closures of Fits and Change, fits. -/
import Derived.Test.YtfnijjjfodpnnaaLedC
import Derived.Laws.EntriesVeiled
namespace Go.Proofs.Ytfnijjjfodpnnaa
open Go.RowKit Go.Shelf

/-- A thing that may be wrong: its closure, why, is it so? -/
structure Fl where (g : Nat) (lb : Array Value) (y : Int) (p : Bool)
def Fl.cells (x : Fl) : List Value := [.func (.func x.g) #[] x.lb, .int .i64 x.y]
def Fl0 : Fl := ⟨0, #[], 0, false⟩
def firstErr : List Fl → Int
  | [] => 0
  | x :: l => if x.p = true then x.y else firstErr l
theorem firstErr_hit : ∀ (l : List Fl) (j : Nat) (x : Fl), l[j]? = some x → (∀ (i : Nat) (y : Fl), i < j → l[i]? = some y → y.p = false) → x.p = true → firstErr l = x.y
  | [], _, _, h, _, _ => by simp at h
  | y :: l, 0, x, h, _, hp => by simp at h; subst h; simp [firstErr, hp]
  | y :: l, j + 1, x, h, hb, hp => by
    simp at h
    have h0 := hb 0 y (by omega) rfl
    simp only [firstErr, h0, Bool.false_eq_true, if_false]
    exact firstErr_hit l j x h (fun i z hi hz => hb (i + 1) z (by omega) (by simpa using hz)) hp
theorem firstErr_none : ∀ (l : List Fl), (∀ (i : Nat) (y : Fl), l[i]? = some y → y.p = false) → firstErr l = 0
  | [], _ => rfl
  | y :: l, h => by
    have h0 := h 0 y rfl
    simp only [firstErr, h0, Bool.false_eq_true, if_false]
    exact firstErr_none l fun i z hz => h (i + 1) z (by simpa using hz)

set_option maxRecDepth 100000 in
set_option maxHeartbeats 400000 in
theorem first_any (fl : List Fl) (A : Option Addr) (c : Nat) (w : World) (hs : SAt Fl.cells 2 w (.slice A fl.length c) fl) (eg : ∀ x ∈ fl, ∀ args w, (callFunc x.g args).run Try.prog w = .ok (.enter x.g args) w)
    (hp : ∀ (W : World) (j : Nat) (x : Fl), fl[j]? = some x → (∀ (i : Nat) (y : Fl), i < j → fl[i]? = some y → y.p = false) → Below w.heap.size w W → Calls Try.prog x.g x.lb W fun e w' => e = .returned (.bool x.p) ∧ Below W.heap.size W w') :
    Calls Try.prog 35 #[.slice A fl.length c] w fun e w' => e = .returned (.int .i64 (firstErr fl)) ∧ Below w.heap.size w w' := by
  have hlen := hs.len
  unfold maxLen at hlen
  have HS := Lib.hid hs
  have HP := Lib.hid hp
  have EG := Lib.hid eg
  have HGE : Hid (∀ j, j < fl.length → fl[j]? = some (fl.getD j Fl0)) := Lib.hid fun j hj => by simp [List.getD, hj]
  clear hs hp eg
  go_enter Try.func35, Try.ntmps35
  go_wp2_with fail
  go_loopg [7] fl.length (fun gg s7 wr => ∃ kk : Nat, kk ≤ fl.length ∧ fl.length - kk ≤ gg ∧ s7 = .int .i64 kk ∧ Aside (Below w.heap.size w wr) ∧ Aside (∀ (i : Nat) (y : Fl), i < kk → fl[i]? = some y → y.p = false))
  case atStart => exact ⟨0, Nat.zero_le _, by omega, rfl, Below.refl _ _, fun i y hi => absurd hi (Nat.not_lt_zero _)⟩
  case round =>
    obtain ⟨kk, hkk, hgg, rfl, HB, HN⟩ := hrel
    by_cases hlt : kk < fl.length
    · have hltz : (kk : Int) < (fl.length : Int) := by omega
      have hgj := HGE.out kk hlt
      generalize fl.getD kk Fl0 = x at hgj
      rcases HS.out.below HB.out with ⟨h1, h2⟩ | ⟨b, o, c', h1, _, _, hrow⟩
      · subst h2; simp at hlt
      · have hA : A = some ⟨b, o, none⟩ := by injection h1
        have e0 : wr.cell? ⟨b, o + kk * 2, none⟩ = some (.func (.func x.g) #[] x.lb) := hrow kk x hgj 0 _ rfl
        have e1 : wr.cell? ⟨b, o + kk * 2 + 1, none⟩ = some (.int .i64 x.y) := hrow kk x hgj 1 _ rfl
        subst hA
        have hbs : b < wr.heap.size := World.block_lt_of_cell? wr ⟨b, o + kk * 2, none⟩ e0
        have egx := EG.out x (List.mem_of_getElem? hgj)
        have hwa := bl_alloc (Below.refl wr.heap.size wr) (.cells #[.func (.func x.g) #[] x.lb, .int .i64 x.y] 79)
        have hcall := HP.out _ kk x hgj HN.out (bl_then HB.out hwa)
        obtain ⟨xg, xl, xy, xp⟩ := x
        simp only at e0 e1 egx hcall
        have HGJ := Lib.hid hgj
        have HWA := Lib.hid hwa
        clear hgj hrow h1 hwa
        cases xp with
        | true =>
          go_wp2_with fail
          refine hcall.mono ?_
          rintro e w2 ⟨rfl, hb2⟩
          have b0 := bl_cell hb2 (b := wr.heap.size) (o := 1) (v := .int .i64 xy) (by go_simp)
          go_wp2_with fail
          go_ret
          exact ⟨by rw [firstErr_hit fl kk _ HGJ.out HN.out rfl]; rfl, bl_then (bl_then HB.out HWA.out) hb2⟩
        | false =>
          go_wp2_with fail
          refine hcall.mono ?_
          rintro e w2 ⟨rfl, hb2⟩
          go_wp2_with fail
          go_roundg (fl.length - (kk + 1))
          case measure => omega
          case rel =>
            refine ⟨kk + 1, by omega, by omega, by go_num, bl_then (bl_then HB.out HWA.out) hb2, (show Aside _ from fun i y hi hy => ?_)⟩
            by_cases e : i = kk
            · subst e
              rw [HGJ.out] at hy
              cases hy
              rfl
            · exact HN.out i y (by omega) hy
    · have hltz : ¬ (kk : Int) < (fl.length : Int) := by omega
      have hke : kk = fl.length := by omega
      subst hke
      go_wp2_with fail
      go_ret
      exact ⟨by rw [firstErr_none fl fun i y hy => HN.out i y (List.getElem?_eq_some_iff.1 hy).1 hy]; rfl, HB.out⟩

/-- The three cells of an entry at a place. -/
def EnAt (w : World) (b o : Nat) (x : En) : Prop := w.cell? ⟨b, o, none⟩ = some (.int .i64 x.i) ∧ w.cell? ⟨b, o + 1, none⟩ = some (.int .i64 x.r) ∧ w.cell? ⟨b, o + 2, none⟩ = some (.int .i64 x.m)
theorem EnAt.below {w W : World} {b o : Nat} {x : En} (h : EnAt w b o x) (hb : Below w.heap.size w W) : EnAt W b o x := ⟨bl_cell hb h.1, bl_cell hb h.2.1, bl_cell hb h.2.2⟩

theorem sat_new1 {w W : World} {b : Nat} {n : Int} {t : TypeId} (hb : b = w.heap.size) (hW : W = w.alloc (.cells #[.int .i64 n] t)) : SAt (fun n => [ev64 n]) 1 W (.slice (some ⟨b, 0, none⟩) 1 1) [n] := by
  subst hW
  exact Or.inr ⟨b, 0, 1, rfl, Nat.le_refl _, by decide, rowAt_new (enc := fun n => [ev64 n]) (k := 1) (fun _ => rfl) w t [n] hb rfl⟩
theorem sat_new2 {w W : World} {b : Nat} {n m : Int} {t : TypeId} (hb : b = w.heap.size) (hW : W = w.alloc (.cells #[.int .i64 n, .int .i64 m] t)) : SAt (fun n => [ev64 n]) 1 W (.slice (some ⟨b, 0, none⟩) 2 2) [n, m] := by
  subst hW
  exact Or.inr ⟨b, 0, 2, rfl, Nat.le_refl _, by decide, rowAt_new (enc := fun n => [ev64 n]) (k := 1) (fun _ => rfl) w t [n, m] hb rfl⟩

set_option maxRecDepth 100000 in
set_option maxHeartbeats 400000 in
theorem fits1_any (x : En) (now : Int) (bx bn : Nat) (w : World) (hx : EnAt w bx 0 x) (hn : w.cell? ⟨bn, 0, none⟩ = some (.int .i64 now)) :
    Calls Try.prog 36 #[.pointer (some ⟨bx, 0, none⟩), .pointer (some ⟨bn, 0, none⟩)] w fun e w' => e = .returned (.bool (!mayB x [now])) ∧ Below w.heap.size w w' := by
  obtain ⟨c0, c1, c2⟩ := hx
  go_enter Try.func36, Try.ntmps36
  go_wp2_with (go_at_call 37; refine (may_any x [now] _ _ (sat_new1 rfl rfl)).mono ?_; rintro e w' ⟨rfl, hb⟩)
  go_ret
  exact ⟨rfl, (bl_alloc (Below.refl _ _) _).trans (hb.mono (by simp))⟩
set_option maxRecDepth 100000 in
set_option maxHeartbeats 400000 in
theorem change1_any (x : En) (now till : Int) (bx bn bt : Nat) (w : World) (hx : EnAt w bx 0 x) (hn : w.cell? ⟨bn, 0, none⟩ = some (.int .i64 now)) (ht : w.cell? ⟨bt, 0, none⟩ = some (.int .i64 till)) :
    Calls Try.prog 50 #[.pointer (some ⟨bx, 0, none⟩), .pointer (some ⟨bn, 0, none⟩), .pointer (some ⟨bt, 0, none⟩)] w fun e w' => e = .returned (.bool (!mayB x [now, till])) ∧ Below w.heap.size w w' := by
  obtain ⟨c0, c1, c2⟩ := hx
  go_enter Try.func50, Try.ntmps50
  go_wp2_with (go_at_call 37; refine (may_any x [now, till] _ _ (sat_new2 rfl rfl)).mono ?_; rintro e w' ⟨rfl, hb⟩)
  go_ret
  exact ⟨rfl, (bl_alloc (Below.refl _ _) _).trans (hb.mono (by simp))⟩
set_option maxHeartbeats 400000 in
theorem fits2_any (t : Bool) (b : Nat) (w : World) (h : w.cell? ⟨b, 0, none⟩ = some (.bool t)) :
    Calls Try.prog 38 #[.pointer (some ⟨b, 0, none⟩)] w fun e w' => e = .returned (.bool t) ∧ w = w' := by
  go_enter Try.func38, Try.ntmps38
  go_wp2
  go_ret
  exact ⟨rfl, rfl⟩
set_option maxHeartbeats 400000 in
theorem change2_any (t : Bool) (b : Nat) (w : World) (h : w.cell? ⟨b, 0, none⟩ = some (.bool t)) :
    Calls Try.prog 51 #[.pointer (some ⟨b, 0, none⟩)] w fun e w' => e = .returned (.bool (!t)) ∧ w = w' := by
  go_enter Try.func51, Try.ntmps51
  go_wp2
  go_ret
  exact ⟨rfl, rfl⟩
set_option maxHeartbeats 400000 in
theorem fits3_any (p r b : Nat) (share room : Int) (es : List En) (gs : List Ling) (w : World) (h : LedgerAt w p r share room es gs) (hb : w.cell? ⟨b, 0, none⟩ = some (.pointer (some ⟨p, 0, none⟩))) (hl : es.length ≤ 1000) :
    Calls Try.prog 39 #[.pointer (some ⟨b, 0, none⟩)] w fun e w' => e = .returned (.bool (decide (32 ≤ es.length))) ∧ w = w' := by
  obtain ⟨v, c0, c1, c2, c3, hs, hm⟩ := h.cells
  obtain ⟨ees, cl, hb2, hsz⟩ := run_mlen hm
  have hrun : ∀ ty, (Builtin.len_ #[62] ty #[.map (some r)]).run Try.prog w = .ok (.int .i64 es.length) w := fun ty => by
    simp [Builtin.len_, run_underlying Try.underlying62, MapKept.run_getObj_map hb2, goInt, hsz, enL]
  clear h hs hm hsz hb2
  go_enter Try.func39, Try.ntmps39
  go_wp2
  all_goals go_ret
  all_goals (refine ⟨?_, rfl⟩; simp_all <;> omega)
end Go.Proofs.Ytfnijjjfodpnnaa
