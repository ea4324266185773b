/- Ledger: flaws; fits. -/
import Derived.Test.YtfnijjjfodpnnaaLedD
import Derived.ArgAppend
namespace Go.Proofs.Ytfnijjjfodpnnaa
open Go.RowKit Go.Shelf

def FlOk (w : World) (x : Fl) : Prop := (∀ args w, (callFunc x.g args).run Try.prog w = .ok (.enter x.g args) w) ∧ ∀ W, Below w.heap.size w W → Calls Try.prog x.g x.lb W fun e w' => e = .returned (.bool x.p) ∧ Below W.heap.size W w'
theorem FlOk.below {w W : World} {x : Fl} (h : FlOk w x) (hb : Below w.heap.size w W) : FlOk W x := ⟨h.1, fun W' hb' => h.2 W' (bl_then hb hb')⟩
def Fl.q (x : Fl) : Int × Bool := (x.y, x.p)
def firstQ : List (Int × Bool) → Int
  | [] => 0
  | q :: l => if q.2 = true then q.1 else firstQ l
theorem firstErr_q (fl : List Fl) : firstErr fl = firstQ (fl.map Fl.q) := by
  induction fl with
  | nil => rfl
  | cons x l ih => simp only [firstErr, List.map_cons, firstQ, ih]; rfl
/-- v is a slice of flaws, whose answers are these. -/
def Flaws (w : World) (v : Value) (qs : List (Int × Bool)) : Prop := ∃ fl, SAt Fl.cells 2 w v fl ∧ (∀ x ∈ fl, FlOk w x) ∧ fl.map Fl.q = qs
theorem Flaws.below {w W : World} {v : Value} {qs : List (Int × Bool)} (h : Flaws w v qs) (hb : Below w.heap.size w W) : Flaws W v qs := by
  obtain ⟨fl, h1, h2, h3⟩ := h
  exact ⟨fl, h1.below hb, fun x hx => (h2 x hx).below hb, h3⟩
theorem first_fl (v : Value) (qs : List (Int × Bool)) (w : World) (h : Flaws w v qs) :
    Calls Try.prog 35 #[v] w fun e w' => e = .returned (.int .i64 (firstQ qs)) ∧ Below w.heap.size w w' := by
  obtain ⟨fl, h1, h2, rfl⟩ := h
  obtain ⟨A, c, rfl⟩ := h1.slice
  rw [← firstErr_q]
  exact first_any fl A c w h1 (fun x hx => (h2 x hx).1) fun W j x hj _ hW => (h2 x (List.mem_of_getElem? hj)).2 W hW
theorem sat_fl {w W : World} {b : Nat} {n : Nat} {t : TypeId} (fl : List Fl) (hb : b = w.heap.size) (hW : W = w.alloc (.cells (fl.flatMap Fl.cells).toArray t)) (hn : fl.length = n) (h9 : n ≤ 9) : SAt Fl.cells 2 W (.slice (some ⟨b, 0, none⟩) n n) fl := by
  subst hW hn
  exact Or.inr ⟨b, 0, fl.length, rfl, Nat.le_refl _, by unfold maxLen; omega, rowAt_new (enc := Fl.cells) (k := 2) (fun _ => rfl) w t fl hb rfl⟩

def tooMuch (share taken old new : Int) : Bool := decide (share < wrap64 (wrap64 (taken - old) + new))
set_option maxRecDepth 100000 in
set_option maxHeartbeats 400000 in
theorem fitsm1_any (p r : Nat) (share room : Int) (es : List En) (gs : List Ling) (rate : Int) (x old : En) (b9 bo bx bp : Nat) (w : World) (h : LedgerAt w p r share room es gs) (h9 : w.cell? ⟨b9, 0, none⟩ = some (.int .i64 rate)) (ho : EnAt w bo 0 old) (hx : EnAt w bx 0 x) (hp : w.cell? ⟨bp, 0, none⟩ = some (.pointer (some ⟨p, 0, none⟩))) :
    Calls Try.prog 63 #[.pointer (some ⟨b9, 0, none⟩), .pointer (some ⟨bo, 0, none⟩), .pointer (some ⟨bx, 0, none⟩), .pointer (some ⟨bp, 0, none⟩)] w fun e w' => e = .returned (.bool (tooMuch share rate old.r x.r)) ∧ Below w.heap.size w w' := by
  obtain ⟨v, c0, c1, c2, c3, hs, hm⟩ := h.cells
  obtain ⟨o0, o1, o2⟩ := ho
  obtain ⟨x0, x1, x2⟩ := hx
  clear h hs hm
  unfold tooMuch
  go_enter Try.func63, Try.ntmps63
  go_wp2_with fail
  go_quiet (fail)
  go_wp2_with fail
  go_ret
  exact ⟨rfl, by repeat (first | exact Below.refl _ _ | refine bl_alloc ?_ _ | refine bl_drewN ?_ _ | refine bl_drew ?_)⟩
set_option maxRecDepth 100000 in
set_option maxHeartbeats 400000 in
theorem fitsm2_any (p r : Nat) (share room : Int) (es : List En) (gs : List Ling) (tm : Int) (x old : En) (b9 bo bx bp : Nat) (w : World) (h : LedgerAt w p r share room es gs) (h9 : w.cell? ⟨b9, 0, none⟩ = some (.int .i64 tm)) (ho : EnAt w bo 0 old) (hx : EnAt w bx 0 x) (hp : w.cell? ⟨bp, 0, none⟩ = some (.pointer (some ⟨p, 0, none⟩))) :
    Calls Try.prog 64 #[.pointer (some ⟨b9, 0, none⟩), .pointer (some ⟨bo, 0, none⟩), .pointer (some ⟨bx, 0, none⟩), .pointer (some ⟨bp, 0, none⟩)] w fun e w' => e = .returned (.bool (tooMuch room tm old.m x.m)) ∧ Below w.heap.size w w' := by
  obtain ⟨v, c0, c1, c2, c3, hs, hm⟩ := h.cells
  obtain ⟨o0, o1, o2⟩ := ho
  obtain ⟨x0, x1, x2⟩ := hx
  clear h hs hm
  unfold tooMuch
  go_enter Try.func64, Try.ntmps64
  go_wp2_with fail
  go_quiet (fail)
  go_wp2_with fail
  go_ret
  exact ⟨rfl, by repeat (first | exact Below.refl _ _ | refine bl_alloc ?_ _ | refine bl_drewN ?_ _ | refine bl_drew ?_)⟩

def roomQs (share room : Int) (es : List En) (gs : List Ling) (x old : En) (now : Int) : List (Int × Bool) := [(271, tooMuch share (sumR es + takG gs now) old.r x.r), (272, tooMuch room (sumM es) old.m x.m)]
theorem en_enters1 : ∀ args w, (callFunc 63 args).run Try.prog w = .ok (.enter 63 args) w := enters_of Try.func63 (by kernel_rfl) rfl
theorem en_enters2 : ∀ args w, (callFunc 64 args).run Try.prog w = .ok (.enter 64 args) w := enters_of Try.func64 (by kernel_rfl) rfl
set_option maxRecDepth 100000 in
set_option maxHeartbeats 400000 in
theorem fits_any (p r : Nat) (share room : Int) (es : List En) (gs : List Ling) (x old : En) (now : Int) (w : World) (h : LedgerAt w p r share room es gs) (hF : Fine es gs) :
    Calls Try.prog 40 #[.pointer (some ⟨p, 0, none⟩), .agg #[.int .i64 x.i, .int .i64 x.r, .int .i64 x.m], .agg #[.int .i64 old.i, .int .i64 old.r, .int .i64 old.m], .int .i64 now] w fun e w' => ∃ v, e = .returned v ∧ Flaws w' v (roomQs share room es gs x old now) ∧ Below w.heap.size w w' := by
  have hh := h.below (bl_alloc (bl_alloc (bl_alloc (Below.refl w.heap.size w) (.cells #[.pointer (some ⟨p, 0, none⟩)] 25)) (.cells #[.int .i64 x.i, .int .i64 x.r, .int .i64 x.m] 30)) (.cells #[.int .i64 old.i, .int .i64 old.r, .int .i64 old.m] 30))
  have H := Lib.hid h
  have HH := Lib.hid hh
  have HF := Lib.hid hF
  clear h hh hF
  go_enter Try.func40, Try.ntmps40
  go_wp2_with fail
  refine (taken_any p r share room es gs now _ HH.out HF.out).mono ?_
  rintro e w1 ⟨rfl, hb1⟩
  have hbw : Below w.heap.size w w1 := (bl_alloc (bl_alloc (bl_alloc (Below.refl _ _) _) _) _).trans (hb1.mono (by simp <;> omega))
  have k0 : w1.cell? ⟨w.heap.size, 0, none⟩ = some (.pointer (some ⟨p, 0, none⟩)) := bl_cell hb1 (by go_simp)
  have kx : EnAt w1 (w.heap.size + 1) 0 x := ⟨bl_cell hb1 (by go_simp), bl_cell hb1 (by go_simp), bl_cell hb1 (by go_simp)⟩
  have ko : EnAt w1 (w.heap.size + 2) 0 old := ⟨bl_cell hb1 (by go_simp), bl_cell hb1 (by go_simp), bl_cell hb1 (by go_simp)⟩
  have K0 := Lib.hid k0
  have KX := Lib.hid kx
  have KO := Lib.hid ko
  have HL := Lib.hid (H.out.below hbw)
  have HBW := Lib.hid hbw
  clear hb1 hbw k0 kx ko
  go_wp2_with fail
  go_ret
  refine ⟨_, rfl, ⟨[⟨63, #[.pointer (some ⟨w1.heap.size, 0, none⟩), .pointer (some ⟨w.heap.size + 2, 0, none⟩), .pointer (some ⟨w.heap.size + 1, 0, none⟩), .pointer (some ⟨w.heap.size, 0, none⟩)], 271, tooMuch share (sumR es + takG gs now) old.r x.r⟩, ⟨64, #[.pointer (some ⟨w1.heap.size + 1, 0, none⟩), .pointer (some ⟨w.heap.size + 2, 0, none⟩), .pointer (some ⟨w.heap.size + 1, 0, none⟩), .pointer (some ⟨w.heap.size, 0, none⟩)], 272, tooMuch room (sumM es) old.m x.m⟩], sat_fl _ (by simp) rfl rfl (by decide), ?_, rfl⟩, bl_alloc (bl_alloc (bl_alloc HBW.out _) _) _⟩
  intro f hf
  simp only [List.mem_cons, List.not_mem_nil, or_false] at hf
  have hbz := bl_alloc (bl_alloc (bl_alloc (Below.refl w1.heap.size w1) (.cells #[.int .i64 (sumR es + takG gs now)] 2)) (.cells #[.int .i64 (sumM es)] 2)) (.cells #[.func (.func 63) #[] #[.pointer (some ⟨w1.heap.size, 0, none⟩), .pointer (some ⟨w.heap.size + 2, 0, none⟩), .pointer (some ⟨w.heap.size + 1, 0, none⟩), .pointer (some ⟨w.heap.size, 0, none⟩)], .int .i64 271, .func (.func 64) #[] #[.pointer (some ⟨w1.heap.size + 1, 0, none⟩), .pointer (some ⟨w.heap.size + 2, 0, none⟩), .pointer (some ⟨w.heap.size + 1, 0, none⟩), .pointer (some ⟨w.heap.size, 0, none⟩)], .int .i64 272] 79)
  rcases hf with rfl | rfl
  · refine ⟨en_enters1, fun W hW => ?_⟩
    have hbW := bl_then hbz hW
    exact fitsm1_any p r share room es gs _ x old _ _ _ _ W (HL.out.below hbW) (bl_cell hW (by go_simp)) (KO.out.below hbW) (KX.out.below hbW) (bl_cell hbW K0.out)
  · refine ⟨en_enters2, fun W hW => ?_⟩
    have hbW := bl_then hbz hW
    exact fitsm2_any p r share room es gs _ x old _ _ _ _ W (HL.out.below hbW) (bl_cell hW (by go_simp)) (KO.out.below hbW) (KX.out.below hbW) (bl_cell hbW K0.out)
end Go.Proofs.Ytfnijjjfodpnnaa
