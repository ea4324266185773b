/- Ledger: LedgerPlay. -/
import Derived.Test.YtfnijjjfodpnnaaLedAI
import Derived.Test.YtfnijjjfodpnnaaLedO
import Derived.Test.YtfnijjjfodpnnaaTake
namespace Go.Proofs.Ytfnijjjfodpnnaa
open Go.RowKit Go.Shelf
set_option linter.unusedVariables false
set_option linter.unusedSimpArgs false
set_option maxRecDepth 100000 in
set_option maxHeartbeats 1000000 in
theorem new_ref (share room : Int) (w : World) :
    Calls Try.prog 21 #[.int .i64 share, .int .i64 room] w fun e w' => e = .returned (.tuple #[refV share room (.slice none 0 0) (.slice none 0 0), .bool (newOk share room)]) ∧ Below w.heap.size w w' := by
  generalize hq : newOk share room = q
  have HQ := Lib.hid hq
  clear hq
  go_enter Try.func21, Try.ntmps21
  go_wp2
  all_goals
    refine bodyPost_ret (v := .tuple #[refV share room (.slice none 0 0) (.slice none 0 0), .bool q]) ?_ rfl ⟨rfl, by repeat (first | exact Below.refl _ _ | refine bl_alloc ?_ _ | refine bl_set ?_ (by simp <;> omega) _)⟩
    rw [← HQ.out]
    simp [results, Try.results21, go_sem, newOk, wi]
    try simp_all
    try (intros; omega)
theorem Both.start {w : World} {p r : Nat} {share room : Int} (h : LedgerAt w p r share room [] []) : Both w p r share room [] [] [] (.slice none 0 0) (.slice none 0 0) 0 :=
  ⟨h, RefAt.nil w, Linked.nil, ⟨Fine.nil, by simp, by simp⟩, fun b o n c hv _ => by simp at hv, fun b o n c hv _ => by simp at hv, by simp⟩
/-- Nothing of a ledger, nor of the document's, lies in block q. -/
structure Off (q : Nat) (w : World) (p : Nat) (ve vl : Value) : Prop where
  e : NotIn q ve
  l : NotIn q vl
  v : ∀ v, w.cell? ⟨p, 3, none⟩ = some v → NotIn q v
theorem Off.step {q p r : Nat} {w W : World} {ve vl ve' vl' : Value} (h : Off q w p ve vl) (hq : q < w.heap.size) (hm : Mov p r w W) (hp : p < w.heap.size) (hr : p ≠ r) (he : FarS w.heap.size ve' ∨ ve' = ve) (hl : FarS w.heap.size vl' ∨ vl' = vl) : Off q W p ve' vl' := by
  refine ⟨?_, ?_, fun v hv => ?_⟩
  · rcases he with he | rfl
    · exact he.notIn hq
    · exact h.e
  · rcases hl with hl | rfl
    · exact hl.notIn hq
    · exact h.l
  · rcases hm.c3 hp hr v hv with f | hv
    · exact FarS.notIn f hq
    · exact h.v v hv
theorem Off.below {q p : Nat} {w W : World} {ve vl : Value} (h : Off q w p ve vl) (hb : Below w.heap.size w W) (hp : p < w.heap.size) : Off q W p ve vl :=
  ⟨h.e, h.l, fun v hv => h.v v ((hb.cell (p := ⟨p, 3, none⟩) hp).symm.trans hv)⟩
theorem sat_notIn {α : Type} {enc : α → List Value} {k : Nat} {w : World} {v : Value} {xs : List α} {b : Nat} {a0 a1 a2 a3 : Value} (h : SAt enc k w v xs) (hB : NotIn b v) : SAt enc k ((((w.setCell ⟨b, 0, none⟩ a0).setCell ⟨b, 1, none⟩ a1).setCell ⟨b, 2, none⟩ a2).setCell ⟨b, 3, none⟩ a3) v xs := by
  rcases h with h | ⟨q, o, c, h1, h2, h3, h4⟩
  · exact Or.inl h
  · exact Or.inr ⟨q, o, c, h1, h2, h3, fun j x hj i u hi => (World.cell?_of_block (w := w) (a := ⟨q, _, none⟩) (set4_other (hB _ _ _ _ h1 (by have := (List.getElem?_eq_some_iff.1 hj).1; omega)))).trans (h4 j x hj i u hi)⟩
/-- A store into a block in which nothing of the two lies. -/
theorem Both.set {q : Nat} {w : World} {p r : Nat} {share room : Int} {es er : List En} {gs : List Ling} {ve vl : Value} {n : Nat} {a0 a1 a2 a3 : Value} (h : Both w p r share room es er gs ve vl n) (ho : Off q w p ve vl) (hp : p ≠ q) (hr : r ≠ q) :
    Both ((((w.setCell ⟨q, 0, none⟩ a0).setCell ⟨q, 1, none⟩ a1).setCell ⟨q, 2, none⟩ a2).setCell ⟨q, 3, none⟩ a3) p r share room es er gs ve vl n := by
  obtain ⟨v, h1, h2, h3⟩ := h.led
  have hv := ho.v v (by rw [cell_blk h1]; rfl)
  exact ⟨⟨v, (set4_other hp).trans h1, sat_notIn h2 hv, h3.step (set4_other hr)⟩, ⟨sat_notIn h.ref.e ho.e, sat_notIn h.ref.g ho.l⟩, h.link, h.sane, h.ne, h.nl, h.pos⟩
theorem Off.set {q : Nat} {w : World} {p : Nat} {ve vl : Value} {a0 a1 a2 a3 : Value} (ho : Off q w p ve vl) (hp : p ≠ q) : Off q ((((w.setCell ⟨q, 0, none⟩ a0).setCell ⟨q, 1, none⟩ a1).setCell ⟨q, 2, none⟩ a2).setCell ⟨q, 3, none⟩ a3) p ve vl :=
  ⟨ho.e, ho.l, fun v hv => ho.v v ((World.cell?_of_block (w := w) (a := ⟨p, 3, none⟩) (set4_other hp)).symm.trans hv)⟩
theorem run_eql_en (a b : En) (w : World) : (binOp .eql 30 (.agg #[.int .i64 a.i, .int .i64 a.r, .int .i64 a.m]) (.agg #[.int .i64 b.i, .int .i64 b.r, .int .i64 b.m])).run Try.prog w = .ok (.bool (sameEn a b)) w := by
  simp [go_sem, sameEn]
  by_cases h1 : a.i = b.i <;> by_cases h2 : a.r = b.r <;> by_cases h3 : a.m = b.m <;> simp [h1, h2, h3]
/-- All but blocks p and r, and new ones, is as it was. -/
def KeepPR (p r : Nat) (w W : World) : Prop := w.heap.size ≤ W.heap.size ∧ ∀ k, k < w.heap.size → k ≠ p → k ≠ r → W.heap[k]? = w.heap[k]?
section
variable {p r : Nat} {w W W2 : World}
theorem kp_refl : KeepPR p r w w := ⟨Nat.le_refl _, fun _ _ _ _ => rfl⟩
theorem kp_drew (h : KeepPR p r w W) : KeepPR p r w W.drew := h
theorem kp_below (h : KeepPR p r w W) (hb : Below W.heap.size W W2) : KeepPR p r w W2 := ⟨Nat.le_trans h.1 hb.size, fun k hk h1 h2 => (hb.block k (by have := h.1; omega)).trans (h.2 k hk h1 h2)⟩
theorem kp_alloc (h : KeepPR p r w W) (o : Obj) : KeepPR p r w (W.alloc o) := kp_below h (bl_alloc (Below.refl _ _) o)
theorem kp_mov (h : KeepPR p r w W) (hm : Mov p r W W2) : KeepPR p r w W2 := ⟨Nat.le_trans h.1 hm.size, fun k hk h1 h2 => (hm.block k (by have := h.1; omega) h1 h2).trans (h.2 k hk h1 h2)⟩
theorem kp_set4 {b : Nat} {a0 a1 a2 a3 : Value} (h : KeepPR p r w W) (hb : w.heap.size ≤ b) : KeepPR p r w ((((W.setCell ⟨b, 0, none⟩ a0).setCell ⟨b, 1, none⟩ a1).setCell ⟨b, 2, none⟩ a2).setCell ⟨b, 3, none⟩ a3) :=
  ⟨by simpa [World.setCell] using h.1, fun k hk h1 h2 => (set4_other (by omega)).trans (h.2 k hk h1 h2)⟩
theorem KeepPR.cell (h : KeepPR p r w W) {q o : Nat} {v : Value} (hc : w.cell? ⟨q, o, none⟩ = some v) (h1 : q ≠ p) (h2 : q ≠ r) : W.cell? ⟨q, o, none⟩ = some v :=
  (World.cell?_of_block (w := w) (a := ⟨q, o, none⟩) (h.2 q (World.block_lt_of_cell? w ⟨q, o, none⟩ hc) h1 h2)).trans hc
end
theorem round_below {p r B : Nat} {w W : World} (h : KeepPR p r w W) (h1 : W.os = w.os) (h2 : W.tape = w.tape) (h3 : W.output = w.output) (hp : B ≤ p) (hr : B ≤ r) (hB : B ≤ w.heap.size := by omega) : Below B w W :=
  ⟨h1, h2, h3, h.1, fun k hk => h.2 k (by omega) (by omega) (by omega)⟩
/-- What a round's turn leaves: block bt holds the document's. -/
def RoundAt (q bt : Nat) (wr wx : World) (p r : Nat) (share room : Int) (n : Nat) : Prop :=
  ∃ es er gs ve vl, wx.heap[bt]? = some (.cells #[.int .i64 share, .int .i64 room, ve, vl] 36 (0, 0)) ∧ wr.heap.size ≤ bt ∧ Both wx p r share room es er gs ve vl n ∧ Off q wx p ve vl ∧ KeepPR p r wr wx ∧ wx.os = wr.os ∧ wx.tape = wr.tape ∧ wx.output = wr.output
theorem both_off_new {b : Nat} {w : World} {p r : Nat} {share room : Int} {es er : List En} {gs : List Ling} {ve vl : Value} {n : Nat} (h : Both w p r share room es er gs ve vl n) (hb : w.heap.size ≤ b) : Off b w p ve vl := by
  obtain ⟨v1, g1, g2, -⟩ := h.led
  refine ⟨SAt.notIn_new (enc := En.cells) (k := 3) (fun _ => rfl) (by decide) h.ref.e hb, SAt.notIn_new (enc := Ling.cells) (k := 2) (fun _ => rfl) (by decide) h.ref.g hb, fun v hv => ?_⟩
  have hc1 : w.cell? ⟨p, 3, none⟩ = some v1 := by rw [cell_blk g1]; rfl
  rw [hc1] at hv
  obtain rfl := Option.some.inj hv
  exact SAt.notIn_new (enc := Ling.cells) (k := 2) (fun _ => rfl) (by decide) g2 hb
theorem ahead_blk {wr w4 : World} {p r : Nat} (hm : Mov p r (wr.alloc (.cells #[.int .i64 0, .int .i64 0, .slice none 0 0, .slice none 0 0] 36)).drew w4) (hp : p < wr.heap.size) (hr : r < wr.heap.size) :
    w4.heap[wr.heap.size]? = some (.cells #[.int .i64 0, .int .i64 0, .slice none 0 0, .slice none 0 0] 36 (0, 0)) :=
  (hm.block wr.heap.size (show wr.heap.size < (wr.alloc (.cells #[.int .i64 0, .int .i64 0, .slice none 0 0, .slice none 0 0] 36)).heap.size by simp) (by omega) (by omega)).trans (at_alloc rfl)
/-- The document's is laid behind the turn. -/
theorem round_behind {q : Nat} {wr w4 : World} {p r : Nat} {share room : Int} {es' er' es er : List En} {gs gs' : List Ling} {ve vl ve' vl' : Value} {n m : Nat} (hb : Both wr p r share room es er gs ve vl n) (ho : Off q wr p ve vl) (hq : q < wr.heap.size) (hm : Mov p r wr.drew w4) (h4 : Both w4 p r share room es' er' gs' ve' vl' m) (he : FarS wr.heap.size ve' ∨ ve' = ve) (hl : FarS wr.heap.size vl' ∨ vl' = vl) :
    RoundAt q w4.heap.size wr (w4.alloc (.cells #[.int .i64 share, .int .i64 room, ve', vl'] 36)) p r share room m := by
  have hlt := hb.led.lt
  have hbl := bl_alloc (Below.refl w4.heap.size w4) (.cells #[.int .i64 share, .int .i64 room, ve', vl'] 36)
  have ho4 : Off q w4 p ve' vl' := Off.step (w := wr.drew) (r := r) ⟨ho.e, ho.l, ho.v⟩ hq hm hlt.1 hlt.2.2 he hl
  exact ⟨es', er', gs', ve', vl', at_alloc rfl, hm.size, h4.below hbl, ho4.below hbl h4.led.lt.1, kp_alloc (kp_mov (kp_drew kp_refl) hm) _, hm.os, hm.tape, hm.output⟩
/-- The document's was laid ahead of the turn, and is stored behind it. -/
theorem round_ahead {q : Nat} {wr w4 : World} {p r : Nat} {share room : Int} {es' er' es er : List En} {gs gs' : List Ling} {ve vl ve' vl' : Value} {n m : Nat} {z0 z1 z2 z3 : Value} (hb : Both wr p r share room es er gs ve vl n) (ho : Off q wr p ve vl) (hq : q < wr.heap.size)
    (hm : Mov p r (wr.alloc (.cells #[z0, z1, z2, z3] 36)).drew w4) (h4 : Both w4 p r share room es' er' gs' ve' vl' m) (he : FarS (wr.alloc (.cells #[z0, z1, z2, z3] 36)).heap.size ve' ∨ ve' = ve) (hl : FarS (wr.alloc (.cells #[z0, z1, z2, z3] 36)).heap.size vl' ∨ vl' = vl) :
    RoundAt q wr.heap.size wr ((((w4.setCell ⟨wr.heap.size, 0, none⟩ (.int .i64 share)).setCell ⟨wr.heap.size, 1, none⟩ (.int .i64 room)).setCell ⟨wr.heap.size, 2, none⟩ ve').setCell ⟨wr.heap.size, 3, none⟩ vl') p r share room m := by
  have hlt := hb.led.lt
  have hbl := bl_alloc (Below.refl wr.heap.size wr) (.cells #[z0, z1, z2, z3] 36)
  have hsz : (wr.alloc (.cells #[z0, z1, z2, z3] 36)).heap.size = wr.heap.size + 1 := by simp
  have hmsz := hm.size
  have hmsz : (wr.alloc (.cells #[z0, z1, z2, z3] 36)).heap.size ≤ w4.heap.size := hmsz
  have hoq := ho.below hbl hlt.1
  have hob := (both_off_new hb (Nat.le_refl _)).below hbl hlt.1
  have ho4 : Off q w4 p ve' vl' := Off.step (w := (wr.alloc (.cells #[z0, z1, z2, z3] 36)).drew) (r := r) ⟨hoq.e, hoq.l, hoq.v⟩ (show q < (wr.alloc (.cells #[z0, z1, z2, z3] 36)).heap.size by omega) hm (show p < (wr.alloc (.cells #[z0, z1, z2, z3] 36)).heap.size by omega) hlt.2.2 he hl
  have hb4 : Off wr.heap.size w4 p ve' vl' := Off.step (w := (wr.alloc (.cells #[z0, z1, z2, z3] 36)).drew) (r := r) ⟨hob.e, hob.l, hob.v⟩ (show wr.heap.size < (wr.alloc (.cells #[z0, z1, z2, z3] 36)).heap.size by omega) hm (show p < (wr.alloc (.cells #[z0, z1, z2, z3] 36)).heap.size by omega) hlt.2.2 he hl
  have hblk : w4.heap[wr.heap.size]? = some (.cells #[z0, z1, z2, z3] 36 (0, 0)) :=
    (hm.block wr.heap.size (show wr.heap.size < (wr.alloc (.cells #[z0, z1, z2, z3] 36)).heap.size by omega) (by omega) (by omega)).trans (at_alloc rfl)
  refine ⟨es', er', gs', ve', vl', set4_blk hblk, Nat.le_refl _, h4.set hb4 (by omega) (by omega), ?_, kp_set4 (kp_mov (kp_drew (kp_alloc kp_refl _)) hm) (Nat.le_refl _), hm.os, hm.tape, hm.output⟩
  exact ⟨ho4.e, ho4.l, fun v hv => ho4.v v ((World.cell?_of_block (w := w4) (a := ⟨p, 3, none⟩) (set4_other (by show p ≠ _; omega))).symm.trans hv)⟩
/-- Between the rounds: block q holds the document's. -/
def PlayAt (q : Nat) (w : World) (p r : Nat) (share room : Int) (n : Nat) : Prop :=
  ∃ es er gs ve vl, w.heap[q]? = some (.cells #[.int .i64 share, .int .i64 room, ve, vl] 36 (0, 0)) ∧ Both w p r share room es er gs ve vl n ∧ Off q w p ve vl
theorem wi_clip (t : Int) : wi (max 0 (min t 4611686018427387904)) 0 4611686018427387904 = true := by
  simp [wi]
  omega
set_option maxRecDepth 100000 in
set_option maxHeartbeats 4000000 in
theorem ledgerPlay_any (share room : Int) (v : Value) (acts : List Turn) (t0 t1 : Int) (w : World) (h : SAt Turn.cells 6 w v acts) :
    Calls Try.prog 7 #[.agg #[.int .i64 share, .int .i64 room], v, .agg #[.int .i64 t0, .int .i64 t1]] w fun e w' => e = .returned (.bool true) ∧ Below w.heap.size w w' := by
  obtain ⟨A, c, rfl⟩ := h.slice
  have hlen := h.len
  unfold maxLen at hlen
  have HS := Lib.hid h
  have HGE : Hid (∀ j, j < acts.length → acts[j]? = some (acts.getD j Turn0)) := Lib.hid fun j hj => by simp [List.getD, hj]
  clear h
  by_cases hg : acts.length ≤ 60
  · have k1 : ¬ 60 < (acts.length : Int) := by omega
    cases hok : newOk share room with
    | false =>
      have HOK := Lib.hid hok
      clear hok
      go_enter Try.func7, Try.ntmps7
      go_wp2_with fail
      refine (new_led share room _).mono ?_
      rintro e w1 ⟨hb1, ⟨h0, rfl⟩ | ⟨hok, p, r, rfl, hl1, hp, hr⟩⟩
      · have l0 : w1.cell? ⟨w.heap.size, 0, none⟩ = some (.int .i64 share) := bl_cell hb1 (by go_simp)
        have l1 : w1.cell? ⟨w.heap.size, 1, none⟩ = some (.int .i64 room) := bl_cell hb1 (by go_simp)
        have HBW : Hid (Below w.heap.size w w1) := Lib.hid ((bl_alloc (bl_alloc (Below.refl _ _) _) _).trans (hb1.mono (by simp; omega)))
        clear hb1
        go_wp2_with fail
        refine (new_ref share room _).mono ?_
        rintro e w2 ⟨rfl, hb2⟩
        rw [HOK.out]
        have HB2 := Lib.hid (bl_then HBW.out hb2)
        clear hb2 l0 l1
        go_wp2_with (go_at_call 10; refine (known_any _).mono ?_; rintro e w' ⟨rfl, hb⟩)
        go_ret
        exact ⟨rfl, HB2.out.trans (((bl_alloc (Below.refl w2.heap.size w2) _).trans (hb.mono (by simp))).mono HB2.out.size)⟩
      · rw [HOK.out] at hok; cases hok
    | true =>
      have HOK := Lib.hid hok
      clear hok
      go_enter Try.func7, Try.ntmps7
      go_wp2_with fail
      refine (new_led share room _).mono ?_
      rintro e w1 ⟨hb1, ⟨h0, rfl⟩ | ⟨hok, p, r, rfl, hl1, hp, hr⟩⟩
      · rw [HOK.out] at h0; cases h0
      · have l0 : w1.cell? ⟨w.heap.size, 0, none⟩ = some (.int .i64 share) := bl_cell hb1 (by go_simp)
        have l1 : w1.cell? ⟨w.heap.size, 1, none⟩ = some (.int .i64 room) := bl_cell hb1 (by go_simp)
        have m0 : w1.cell? ⟨w.heap.size + 1, 0, none⟩ = some (.int .i64 t0) := bl_cell hb1 (by go_simp)
        have m1 : w1.cell? ⟨w.heap.size + 1, 1, none⟩ = some (.int .i64 t1) := bl_cell hb1 (by go_simp)
        have hs1 := hb1.size
        simp at hs1 hp hr
        have HBW : Hid (Below w.heap.size w w1) := Lib.hid ((bl_alloc (bl_alloc (Below.refl _ _) _) _).trans (hb1.mono (by simp; omega)))
        have HL1 := Lib.hid hl1
        have hlt1 := hl1.lt
        clear hb1 hok hl1
        go_wp2_with fail
        refine (new_ref share room _).mono ?_
        rintro e w2 ⟨rfl, hb2⟩
        rw [HOK.out]
        have m0' := bl_cell hb2 m0
        have m1' := bl_cell hb2 m1
        have hs2 := hb2.size
        have HL2 := Lib.hid (HL1.out.below hb2)
        have HB2 := Lib.hid (bl_then HBW.out hb2)
        have hms : w.heap.size + 1 < w2.heap.size := by omega
        clear hb2 l0 l1 m0 m1
        have hpa : PlayAt w2.heap.size (w2.alloc (.cells #[.int .i64 share, .int .i64 room, .slice none 0 0, .slice none 0 0] 36)) p r share room 0 := by
          have hb := bl_alloc (Below.refl w2.heap.size w2) (.cells #[.int .i64 share, .int .i64 room, .slice none 0 0, .slice none 0 0] 36)
          refine ⟨[], [], [], _, _, at_alloc rfl, Both.start (HL2.out.below hb), ⟨fun b o n c hv _ => by simp at hv, fun b o n c hv _ => by simp at hv, fun v hv => ?_⟩⟩
          obtain ⟨v1, g1, g2, -⟩ := HL2.out
          have hc1 : w2.cell? ⟨p, 3, none⟩ = some v1 := by rw [cell_blk g1]; rfl
          rw [bl_cell hb hc1] at hv
          obtain rfl := Option.some.inj hv
          exact SAt.notIn_new (enc := Ling.cells) (k := 2) (fun _ => rfl) (by decide) g2 (Nat.le_refl _)
        have HPA := Lib.hid hpa
        have m0 : (w2.alloc (.cells #[.int .i64 share, .int .i64 room, .slice none 0 0, .slice none 0 0] 36)).cell? ⟨w.heap.size + 1, 0, none⟩ = some (.int .i64 t0) := bl_cell (bl_alloc (Below.refl _ _) _) m0'
        have m1 : (w2.alloc (.cells #[.int .i64 share, .int .i64 room, .slice none 0 0, .slice none 0 0] 36)).cell? ⟨w.heap.size + 1, 1, none⟩ = some (.int .i64 t1) := bl_cell (bl_alloc (Below.refl _ _) _) m1'
        have HM0 := Lib.hid m0
        have HM1 := Lib.hid m1
        have hlp2 := HL2.out.lt
        have HSZ : Hid ((w2.alloc (.cells #[.int .i64 share, .int .i64 room, .slice none 0 0, .slice none 0 0] 36)).heap.size = w2.heap.size + 1) := Lib.hid (by simp)
        have HB3 : Hid (Below w.heap.size w (w2.alloc (.cells #[.int .i64 share, .int .i64 room, .slice none 0 0, .slice none 0 0] 36))) := Lib.hid (HB2.out.alloc HB2.out.size _)
        have HWC := Lib.hid (wi_clip t0)
        clear hpa m0 m1
        go_upto_region 7 with fail
        obtain ⟨q, hq⟩ : ∃ q, q = w2.heap.size := ⟨_, rfl⟩
        rw [← hq] at HPA HSZ ⊢
        generalize (w2.alloc (.cells #[.int .i64 share, .int .i64 room, .slice none 0 0, .slice none 0 0] 36)) = w3 at HPA HM0 HM1 HSZ HB3 ⊢
        have hz3 := HSZ.out
        have k0 := HM0.out
        have HQ : Hid (w.heap.size + 2 ≤ q ∧ p < q ∧ r < q ∧ p ≠ r ∧ w.heap.size + 2 ≤ p ∧ w.heap.size + 2 ≤ r) := Lib.hid (by omega)
        clear hq hlp2 hlt1 hs1 hs2 hms hp hr m0' m1'
        obtain ⟨hq1, hq2, hq3, hq4, hq5, hq6⟩ := HQ.out
        go_wp2_with fail
        clear k0
        go_loopg [12] acts.length (fun gg s12 wr => ∃ kk : Nat, kk ≤ acts.length ∧ acts.length - kk ≤ gg ∧ s12 = .int .i64 kk ∧ Aside (PlayAt q wr p r share room kk) ∧ Aside (Below (w.heap.size + 2) w3 wr))
        case atStart => exact ⟨0, Nat.zero_le _, by omega, rfl, HPA.out, Below.refl _ _⟩
        case round =>
          obtain ⟨kk, hkk, hgg, rfl, HPL, HB⟩ := hrel
          obtain ⟨es, er, gs, ve, vl, hbq, hbo, hoff⟩ := HPL.out
          obtain ⟨A4, c4, rfl⟩ := hbo.ref.e.slice
          obtain ⟨A5, c5, rfl⟩ := hbo.ref.g.slice
          have hzr := HB.out.size
          by_cases hlt : kk < acts.length
          · have hltz : (kk : Int) < (acts.length : Int) := by omega
            have hkz : (0 : Int) ≤ (kk : Int) := by omega
            have hgj := HGE.out kk hlt
            generalize acts.getD kk Turn0 = a at hgj
            rcases HS.out.below (HB3.out.trans (HB.out.mono (by omega))) with ⟨h1, h2⟩ | ⟨b, o, c2, h1, _, _, hrow⟩
            · subst h2; simp at hlt
            have hA : A = some ⟨b, o, none⟩ := by injection h1
            obtain ⟨e0, e1, e2, e3, e4, e5⟩ := TurnAt.ofRow hrow hgj
            subst hA
            have hbs : b < wr.heap.size := World.block_lt_of_cell? wr ⟨b, o + kk * 6, none⟩ e0
            obtain ⟨g0, g1, g2, g3, f0, f1, f2, f3⟩ := ref_cells' hbq
            have HLT := Lib.hid hbo.led.lt
            have HBO := Lib.hid hbo
            have HOFF := Lib.hid hoff
            have HBQ := Lib.hid hbq
            clear h1 hrow hgj hbo hoff hbq
            have hbw : b < w.heap.size := by
              rcases HS.out with ⟨h1, h2⟩ | ⟨b', o', c', h1, _, _, hrow'⟩
              · rw [h2] at hlt; simp at hlt
              · injection h1 with h1
                injection h1 with h1
                injection h1 with h1 h1'
                subst h1 h1'
                exact World.block_lt_of_cell? w ⟨b, _, none⟩ (TurnAt.ofRow hrow' (HGE.out kk hlt)).1
            have HSK : Hid (∀ W, KeepPR p r wr W → (fun w' => (w'.cell? ⟨q, 0, none⟩ = some (.int .i64 share) ∧ w'.cell? ⟨q, 1, none⟩ = some (.int .i64 room) ∧ w'.cell? ⟨q, 2, none⟩ = some (.slice A4 er.length c4) ∧ w'.cell? ⟨q, 3, none⟩ = some (.slice A5 gs.length c5)) ∧ (w'.cell? ⟨b, o + kk * 6, none⟩ = some (.int .i64 a.op) ∧ w'.cell? ⟨b, o + kk * 6 + 1, none⟩ = some (.int .i64 a.e.i) ∧ w'.cell? ⟨b, o + kk * 6 + 2, none⟩ = some (.int .i64 a.e.r) ∧ w'.cell? ⟨b, o + kk * 6 + 3, none⟩ = some (.int .i64 a.e.m) ∧ w'.cell? ⟨b, o + kk * 6 + 4, none⟩ = some (.int .i64 a.now) ∧ w'.cell? ⟨b, o + kk * 6 + 5, none⟩ = some (.int .i64 a.till))) W) := Lib.hid fun W hW =>
              ⟨⟨hW.cell g0 (by omega) (by omega), hW.cell g1 (by omega) (by omega), hW.cell g2 (by omega) (by omega), hW.cell g3 (by omega) (by omega)⟩, hW.cell e0 (by omega) (by omega), hW.cell e1 (by omega) (by omega), hW.cell e2 (by omega) (by omega), hW.cell e3 (by omega) (by omega), hW.cell e4 (by omega) (by omega), hW.cell e5 (by omega) (by omega)⟩
            go_upto_region 11 with fail
            go_cut [13, 14] (fun s13 s14 wx => ∃ bt : Nat, s13 = .pointer (some ⟨bt, 0, none⟩) ∧ s14 = .bool true ∧ Aside (RoundAt q bt wr wx p r share room (kk + 1)))
            case first =>
              first
              | go_region_held3 (fun w' => (w'.cell? ⟨q, 0, none⟩ = some (.int .i64 share) ∧ w'.cell? ⟨q, 1, none⟩ = some (.int .i64 room) ∧ w'.cell? ⟨q, 2, none⟩ = some (.slice A4 er.length c4) ∧ w'.cell? ⟨q, 3, none⟩ = some (.slice A5 gs.length c5)) ∧ (w'.cell? ⟨b, o + kk * 6, none⟩ = some (.int .i64 a.op) ∧ w'.cell? ⟨b, o + kk * 6 + 1, none⟩ = some (.int .i64 a.e.i) ∧ w'.cell? ⟨b, o + kk * 6 + 2, none⟩ = some (.int .i64 a.e.r) ∧ w'.cell? ⟨b, o + kk * 6 + 3, none⟩ = some (.int .i64 a.e.m) ∧ w'.cell? ⟨b, o + kk * 6 + 4, none⟩ = some (.int .i64 a.now) ∧ w'.cell? ⟨b, o + kk * 6 + 5, none⟩ = some (.int .i64 a.till)))
                  (exact HSK.out _ (by (repeat (first | exact kp_refl | exact hkp | refine kp_drew ?_ | refine kp_alloc ?_ _ | refine kp_set4 ?_ (by omega))); done))
                  ((go_at_call 12; refine (does_any p r share room es er gs _ _ a kk _ (HBO.out.below (by (repeat (first | exact Below.refl _ _ | refine bl_drew ?_ | refine bl_alloc ?_ _)); done)) (by omega)).mono ?_; rintro e w4 ⟨⟨es', er', gs', ve', vl', rfl, hb4, hfe, hfl⟩, hm4⟩; obtain ⟨A6, c6, rfl⟩ := hb4.ref.e.slice; obtain ⟨A7, c7, rfl⟩ := hb4.ref.g.slice; have hkp : KeepPR p r wr w4 := kp_mov (by (repeat (first | exact kp_refl | refine kp_drew ?_ | refine kp_alloc ?_ _)); done) hm4; have HB4 := Lib.hid hb4; have HFE := Lib.hid hfe; have HFL := Lib.hid hfl; have HM4 := Lib.hid hm4; (first | obtain ⟨n0, n1, n2, n3, u0, u1, u2, u3⟩ := ref_cells (ahead_blk hm4 HLT.out.1 HLT.out.2.1) | skip); clear hb4 hfe hfl hm4))
              | fail "held3"
              all_goals
                first
                | (have hra := round_behind HBO.out HOFF.out (by omega) HM4.out HB4.out HFE.out HFL.out
                   have HRA := Lib.hid hra
                   clear hra
                   go_wp2_with fail
                   go_meet
                   case rel => exact ⟨_, rfl, rfl, HRA.out⟩)
                | (have hra := round_ahead HBO.out HOFF.out (by omega) HM4.out HB4.out HFE.out HFL.out
                   have HRA := Lib.hid hra
                   clear hra
                   go_wp2_with fail
                   go_meet
                   case rel => exact ⟨_, rfl, rfl, HRA.out⟩)
            case rest =>
              obtain ⟨bt, rfl, rfl, HRO⟩ := hcut
              obtain ⟨es', er', gs', ve', vl', hbt, hbt2, hbo', hoff', hkp', hos, htp, hou⟩ := HRO.out
              obtain ⟨A6, c6, rfl⟩ := hbo'.ref.e.slice
              obtain ⟨A7, c7, rfl⟩ := hbo'.ref.g.slice
              obtain ⟨b0, b1, b2, b3, b4, b5, b6, b7⟩ := ref_cells' hbt
              have hsm := same_any p r share room es' er' gs' _ _ (kk + 1) (max 0 (min t0 4611686018427387904)) wc hbo' HWC.out
              have HBO' := Lib.hid hbo'
              have HOFF' := Lib.hid hoff'
              have HBT := Lib.hid hbt
              have HKP' := Lib.hid hkp'
              have HRB := Lib.hid (round_below hkp' hos htp hou hq5 hq6)
              clear hbt hbo' hoff' hkp' hos htp hou g0 g1 g2 g3 f0 f1 f2 f3 e0 e1 e2 e3 e4 e5
              go_wp2_with fail
              refine hsm.mono ?_
              rintro e w5 ⟨rfl, hb5⟩
              have b0' := bl_cell hb5 b0
              have b1' := bl_cell hb5 b1
              have b2' := bl_cell hb5 b2
              have b3' := bl_cell hb5 b3
              have hqc := (HKP'.out.2 q (by omega) (by omega) (by omega)).trans HBQ.out
              have hq5 := (hb5.block q (Array.getElem?_eq_some_iff.1 hqc).1).trans hqc
              obtain ⟨d0, d1, d2, d3, d4, d5, d6, d7⟩ := ref_cells' hq5
              have hlw := HBO'.out.led.lt
              have hpl5 : PlayAt q ((((w5.setCell ⟨q, 0, none⟩ (.int .i64 share)).setCell ⟨q, 1, none⟩ (.int .i64 room)).setCell ⟨q, 2, none⟩ (.slice A6 er'.length c6)).setCell ⟨q, 3, none⟩ (.slice A7 gs'.length c7)) p r share room (kk + 1) :=
                ⟨es', er', gs', _, _, set4_blk hq5, (HBO'.out.below hb5).set (HOFF'.out.below hb5 hlw.1) (by omega) (by omega), (HOFF'.out.below hb5 hlw.1).set (by omega)⟩
              have hz5 := hb5.size
              have hkz5 := HKP'.out.1
              have hbf5 : Below (w.heap.size + 2) w3 ((((w5.setCell ⟨q, 0, none⟩ (.int .i64 share)).setCell ⟨q, 1, none⟩ (.int .i64 room)).setCell ⟨q, 2, none⟩ (.slice A6 er'.length c6)).setCell ⟨q, 3, none⟩ (.slice A7 gs'.length c7)) :=
                bl_set (bl_set (bl_set (bl_set ((HB.out.trans (HRB.out.mono (by omega))).trans (hb5.mono (by omega))) (by show _ ≤ q; omega) _) (by show _ ≤ q; omega) _) (by show _ ≤ q; omega) _) (by show _ ≤ q; omega) _
              have HPL5 := Lib.hid hpl5
              have HBF5 := Lib.hid hbf5
              clear hsm hb5 hqc hq5 hpl5 hbf5 b0 b1 b2 b3 b4 b5 b6 b7
              go_wp2_with fail
              go_roundg (acts.length - (kk + 1))
              case measure => omega
              case rel => exact ⟨kk + 1, by omega, by omega, by go_num, HPL5.out, HBF5.out⟩
          · have hltz : ¬ (kk : Int) < (acts.length : Int) := by omega
            have m0 := (HB.out.cell (p := ⟨w.heap.size + 1, 0, none⟩) (by show w.heap.size + 1 < _; omega)).trans HM0.out
            have m1 := (HB.out.cell (p := ⟨w.heap.size + 1, 1, none⟩) (by show w.heap.size + 1 < _; omega)).trans HM1.out
            have htk := taken_led p r share room es gs t0 wr hbo.led hbo.sane.fine
            have HBO := Lib.hid hbo
            have HBQ := Lib.hid hbq
            have HBF := Lib.hid (HB3.out.trans (HB.out.mono (by omega)))
            cases hwt : wi t0 0 4611686018427387904
            all_goals
              have hmx : (max 0 (min t0 4611686018427387904) == t0) = wi t0 0 4611686018427387904 := by
                rw [Bool.eq_iff_iff]
                simp [wi]
                omega
              rw [hwt] at hmx
              simp only [hwt, if_true, Bool.false_eq_true, if_false] at htk
              try clear hbo hbq hoff hwt
              go_wp2_with fail
              refine htk.mono ?_
              rintro e w4 ⟨rfl, hb4⟩
              have m1' := bl_cell hb4 m1
              have m0' := bl_cell hb4 m0
              have hgt := get_led p r share room es gs t1 w4 (HBO.out.led.below hb4)
              have HB4 := Lib.hid hb4
              clear htk hb4 m0 m1
              go_wp2_with fail
              refine hgt.mono ?_
              rintro e w5 ⟨rfl, hb5⟩
              have HB5 : Hid (Below wr.heap.size wr w5) := Lib.hid (bl_then HB4.out hb5)
              have hq5 := (HB5.out.block q (Array.getElem?_eq_some_iff.1 HBQ.out).1).trans HBQ.out
              obtain ⟨d0, d1, d2, d3, -, -, -, -⟩ := ref_cells' hq5
              have n0 := bl_cell hb5 m0'
              have n1 := bl_cell hb5 m1'
              have hz5 := HB5.out.size
              have hqw : q < w5.heap.size := (Array.getElem?_eq_some_iff.1 hq5).1
              have hww : w.heap.size + 1 < w5.heap.size := by omega
              have hrf : Hid (∀ W, Below w5.heap.size w5 W → RefAt W (.slice A4 er.length c4) (.slice A5 gs.length c5) er gs) := Lib.hid fun W hW => (HBO.out.ref.below HB5.out).below hW
              have HLK := Lib.hid HBO.out.link
              clear hgt hb5 hq5 m0' m1'
              go_wp2_with fail
              have hfd := find_ref share room _ _ er gs t1 _ (hrf.out _ (bl_alloc (Below.refl w5.heap.size w5) (.cells #[.int .i64 (oldE es t1).i, .int .i64 (oldE es t1).r, .int .i64 (oldE es t1).m] 30)))
              have x0 : (w5.alloc (.cells #[.int .i64 (oldE es t1).i, .int .i64 (oldE es t1).r, .int .i64 (oldE es t1).m] 30)).cell? ⟨w5.heap.size, 0, none⟩ = some (.int .i64 (oldE es t1).i) := by go_simp
              have x1 : (w5.alloc (.cells #[.int .i64 (oldE es t1).i, .int .i64 (oldE es t1).r, .int .i64 (oldE es t1).m] 30)).cell? ⟨w5.heap.size, 1, none⟩ = some (.int .i64 (oldE es t1).r) := by go_simp
              have x2 : (w5.alloc (.cells #[.int .i64 (oldE es t1).i, .int .i64 (oldE es t1).r, .int .i64 (oldE es t1).m] 30)).cell? ⟨w5.heap.size, 2, none⟩ = some (.int .i64 (oldE es t1).m) := by go_simp
              have HB6 : Hid (Below wr.heap.size wr (w5.alloc (.cells #[.int .i64 (oldE es t1).i, .int .i64 (oldE es t1).r, .int .i64 (oldE es t1).m] 30))) := Lib.hid (HB5.out.alloc HB5.out.size _)
              refine hfd.mono ?_
              rintro e w7 ⟨rfl, hb7⟩
              have y0 := bl_cell hb7 x0
              have y1 := bl_cell hb7 x1
              have y2 := bl_cell hb7 x2
              have HB7 : Hid (Below wr.heap.size wr w7) := Lib.hid (bl_then HB6.out hb7)
              have hq7 := (HB7.out.block q (Array.getElem?_eq_some_iff.1 HBQ.out).1).trans HBQ.out
              obtain ⟨-, -, d2', -, -, -, -, -⟩ := ref_cells' hq7
              have n0' := (bl_cell hb7 (bl_cell (bl_alloc (Below.refl _ _) _) n0) : w7.cell? ⟨w.heap.size + 1, 0, none⟩ = some (.int .i64 t0))
              have HR7 := Lib.hid (HBO.out.ref.below HB7.out)
              clear hfd x0 x1 x2 hb7 hq7 d0 d1 d2 d3 n0 n1
              rcases findN_spec er t1 with ⟨h1, h2⟩ | ⟨k0, x, h1, h2, h3⟩
              · have hno : getE es t1 = none := by rw [← HLK.out.get]; exact getE_not h2
                have hold : oldE es t1 = ⟨0, 0, 0⟩ := by rw [oldE, hno]; rfl
                have heq := fun w => run_eql_en ⟨0, 0, 0⟩ ⟨0, 0, 0⟩ w
                rw [hold] at y0 y1 y2
                rw [sameEn_self] at heq
                simp only [h1, hno, hold, Option.isSome_none]
                clear h2 hno hold
                go_wp2_with fail
                refine wp_region_held_drew (S := (fun w' => w'.cell? ⟨w.heap.size + 1, 0, none⟩ = some (.int .i64 t0) ∧ w'.cell? ⟨w5.heap.size, 0, none⟩ = some (.int .i64 0) ∧ w'.cell? ⟨w5.heap.size, 1, none⟩ = some (.int .i64 0) ∧ w'.cell? ⟨w5.heap.size, 2, none⟩ = some (.int .i64 0))) (by kernel_rfl) ⟨n0', y0, y1, y2⟩ (fun hHeld => ?_)
                refine take_yes (i := 0) (v := ?_) rfl (by kernel_rfl) (by kernel_rfl) (by kernel_rfl) (fun _ _ _ h => h) (by kernel_rfl) (by assumption) ?_ ?_
                rotate_left 1
                · (intro w hSw; (try dsimp only at hSw); go_simp; try with_reducible rfl)
                try simp only [Act.put, List.setIfInBounds_toArray, List.set_cons_zero, List.set_cons_succ]
                refine take_yes (i := 1) (v := ?_) rfl (by kernel_rfl) (by kernel_rfl) (by kernel_rfl) (fun _ _ _ h => h) (by kernel_rfl) (by assumption) ?_ ?_
                rotate_left 1
                · (intro w hSw; (try dsimp only at hSw); go_simp; try with_reducible rfl)
                try simp only [Act.put, List.setIfInBounds_toArray, List.set_cons_zero, List.set_cons_succ]
                refine take_yes (i := 2) (v := ?_) rfl (by kernel_rfl) (by kernel_rfl) (by kernel_rfl) (fun _ _ _ h => h) (by kernel_rfl) (by assumption) ?_ ?_
                rotate_left 1
                · (intro w hSw; (try dsimp only at hSw); go_simp; try with_reducible rfl)
                try simp only [Act.put, List.setIfInBounds_toArray, List.set_cons_zero, List.set_cons_succ]
                refine take_yes (i := 3) (v := ?_) rfl (by kernel_rfl) (by kernel_rfl) (by kernel_rfl) (fun _ _ _ h => h) (by kernel_rfl) (by assumption) ?_ ?_
                rotate_left 1
                · (intro w hSw; (try dsimp only at hSw); go_simp; try with_reducible rfl)
                try simp only [Act.put, List.setIfInBounds_toArray, List.set_cons_zero, List.set_cons_succ]
                refine take_yes (i := 4) (v := ?_) rfl (by kernel_rfl) (by kernel_rfl) (by kernel_rfl) (fun _ _ _ h => h) (by kernel_rfl) (by assumption) ?_ ?_
                rotate_left 1
                · (intro w hSw; (try dsimp only at hSw); go_simp; try with_reducible rfl)
                try simp only [Act.put, List.setIfInBounds_toArray, List.set_cons_zero, List.set_cons_succ]
                refine take_yes (i := 5) (v := ?_) rfl (by kernel_rfl) (by kernel_rfl) (by kernel_rfl) (fun _ _ _ h => h) (by kernel_rfl) (by assumption) ?_ ?_
                rotate_left 1
                · (intro w hSw; (try dsimp only at hSw); go_simp; try with_reducible rfl)
                try simp only [Act.put, List.setIfInBounds_toArray, List.set_cons_zero, List.set_cons_succ]
                refine take_yes (i := 6) (v := ?_) rfl (by kernel_rfl) (by kernel_rfl) (by kernel_rfl) (fun _ _ _ h => h) (by kernel_rfl) (by assumption) ?_ ?_
                rotate_left 1
                · (intro w hSw; (try dsimp only at hSw); go_simp; try with_reducible rfl)
                try simp only [Act.put, List.setIfInBounds_toArray, List.set_cons_zero, List.set_cons_succ]
                refine take_yes (i := 7) (v := ?_) rfl (by kernel_rfl) (by kernel_rfl) (by kernel_rfl) (fun _ _ _ h => h) (by kernel_rfl) (by assumption) ?_ ?_
                rotate_left 1
                · (intro w hSw; (try dsimp only at hSw); go_simp; try with_reducible rfl)
                try simp only [Act.put, List.setIfInBounds_toArray, List.set_cons_zero, List.set_cons_succ]
                refine take_yes (i := 8) (v := ?_) rfl (by kernel_rfl) (by kernel_rfl) (by kernel_rfl) (fun _ _ _ h => h) (by kernel_rfl) (by assumption) ?_ ?_
                rotate_left 1
                · (intro w hSw; (try dsimp only at hSw); go_simp; try with_reducible rfl)
                try simp only [Act.put, List.setIfInBounds_toArray, List.set_cons_zero, List.set_cons_succ]
                refine take_yes (i := 9) (v := ?_) rfl (by kernel_rfl) (by kernel_rfl) (by kernel_rfl) (fun _ _ _ h => h) (by kernel_rfl) (by assumption) ?_ ?_
                rotate_left 1
                · (intro w hSw; (try dsimp only at hSw); go_simp; try with_reducible rfl)
                try simp only [Act.put, List.setIfInBounds_toArray, List.set_cons_zero, List.set_cons_succ]
                refine take_yes (i := 10) (v := ?_) rfl (by kernel_rfl) (by kernel_rfl) (by kernel_rfl) (fun _ _ _ h => h) (by kernel_rfl) (by assumption) ?_ ?_
                rotate_left 1
                · (intro w hSw; (try dsimp only at hSw); go_simp; try with_reducible rfl)
                try simp only [Act.put, List.setIfInBounds_toArray, List.set_cons_zero, List.set_cons_succ]
                refine take_yes (i := 11) (v := ?_) rfl (by kernel_rfl) (by kernel_rfl) (by kernel_rfl) (fun _ _ _ h => h) (by kernel_rfl) (by assumption) ?_ ?_
                rotate_left 1
                · (intro w hSw; (try dsimp only at hSw); go_simp; try with_reducible rfl)
                try simp only [Act.put, List.setIfInBounds_toArray, List.set_cons_zero, List.set_cons_succ]
                refine take_yes (i := 12) (v := ?_) rfl (by kernel_rfl) (by kernel_rfl) (by kernel_rfl) (fun _ _ _ h => h) (by kernel_rfl) (by assumption) ?_ ?_
                rotate_left 1
                · (intro w hSw; (try dsimp only at hSw); go_simp; try with_reducible rfl)
                try simp only [Act.put, List.setIfInBounds_toArray, List.set_cons_zero, List.set_cons_succ]
                refine take_yes (i := 13) (v := ?_) rfl (by kernel_rfl) (by kernel_rfl) (by kernel_rfl) (fun _ _ _ h => h) (by kernel_rfl) (by assumption) ?_ ?_
                rotate_left 1
                · (intro w hSw; (try dsimp only at hSw); go_simp; try with_reducible rfl)
                try simp only [Act.put, List.setIfInBounds_toArray, List.set_cons_zero, List.set_cons_succ]
                refine take_yes (i := 14) (v := ?_) rfl (by kernel_rfl) (by kernel_rfl) (by kernel_rfl) (fun _ _ _ h => h) (by kernel_rfl) (by assumption) ?_ ?_
                rotate_left 1
                · (intro w hSw; (try dsimp only at hSw); go_simp; try with_reducible rfl)
                try simp only [Act.put, List.setIfInBounds_toArray, List.set_cons_zero, List.set_cons_succ]
                refine take_yes (i := 15) (v := ?_) rfl (by kernel_rfl) (by kernel_rfl) (by kernel_rfl) (fun _ _ _ h => h) (by kernel_rfl) (by assumption) ?_ ?_
                rotate_left 1
                · (intro w hSw; (try dsimp only at hSw); go_simp; try with_reducible rfl)
                try simp only [Act.put, List.setIfInBounds_toArray, List.set_cons_zero, List.set_cons_succ]
                refine take_yes (i := 16) (v := ?_) rfl (by kernel_rfl) (by kernel_rfl) (by kernel_rfl) (fun _ _ _ h => h) (by kernel_rfl) (by assumption) ?_ ?_
                rotate_left 1
                · (intro w hSw; (try dsimp only at hSw); go_simp; try with_reducible rfl)
                try simp only [Act.put, List.setIfInBounds_toArray, List.set_cons_zero, List.set_cons_succ]
                refine take_yes (i := 17) (v := ?_) rfl (by kernel_rfl) (by kernel_rfl) (by kernel_rfl) (fun _ _ _ h => h) (by kernel_rfl) (by assumption) ?_ ?_
                rotate_left 1
                · (intro w hSw; (try dsimp only at hSw); go_simp; try with_reducible rfl)
                try simp only [Act.put, List.setIfInBounds_toArray, List.set_cons_zero, List.set_cons_succ]
                refine take_yes (i := 18) (v := ?_) rfl (by kernel_rfl) (by kernel_rfl) (by kernel_rfl) (fun _ _ _ h => h) (by kernel_rfl) (by assumption) ?_ ?_
                rotate_left 1
                · (intro w hSw; (try dsimp only at hSw); go_simp; try with_reducible rfl)
                try simp only [Act.put, List.setIfInBounds_toArray, List.set_cons_zero, List.set_cons_succ]
                refine take_yes (i := 19) (v := ?_) rfl (by kernel_rfl) (by kernel_rfl) (by kernel_rfl) (fun _ _ _ h => h) (by kernel_rfl) (by assumption) ?_ ?_
                rotate_left 1
                · (intro w hSw; (try dsimp only at hSw); go_simp; try with_reducible rfl)
                try simp only [Act.put, List.setIfInBounds_toArray, List.set_cons_zero, List.set_cons_succ]
                refine take_yes (i := 20) (v := ?_) rfl (by kernel_rfl) (by kernel_rfl) (by kernel_rfl) (fun _ _ _ h => h) (by kernel_rfl) (by assumption) ?_ ?_
                rotate_left 1
                · (intro w hSw; (try dsimp only at hSw); go_simp; try with_reducible rfl)
                try simp only [Act.put, List.setIfInBounds_toArray, List.set_cons_zero, List.set_cons_succ]
                refine take_no (i := 21) rfl (by kernel_rfl) (by kernel_rfl) (by kernel_rfl) (fun _ _ _ h => h) (by rfl) (by assumption) ?_
                try simp only [Act.put, List.setIfInBounds_toArray, List.set_cons_zero, List.set_cons_succ]
                refine take_no (i := 22) rfl (by kernel_rfl) (by kernel_rfl) (by kernel_rfl) (fun _ _ _ h => h) (by rfl) (by assumption) ?_
                try simp only [Act.put, List.setIfInBounds_toArray, List.set_cons_zero, List.set_cons_succ]
                refine take_no (i := 23) rfl (by kernel_rfl) (by kernel_rfl) (by kernel_rfl) (fun _ _ _ h => h) (by rfl) (by assumption) ?_
                try simp only [Act.put, List.setIfInBounds_toArray, List.set_cons_zero, List.set_cons_succ]
                refine take_no (i := 24) rfl (by kernel_rfl) (by kernel_rfl) (by kernel_rfl) (fun _ _ _ h => h) (by rfl) (by assumption) ?_
                try simp only [Act.put, List.setIfInBounds_toArray, List.set_cons_zero, List.set_cons_succ]
                refine take_no (i := 25) rfl (by kernel_rfl) (by kernel_rfl) (by kernel_rfl) (fun _ _ _ h => h) (by rfl) (by assumption) ?_
                try simp only [Act.put, List.setIfInBounds_toArray, List.set_cons_zero, List.set_cons_succ]
                refine take_no (i := 26) rfl (by kernel_rfl) (by kernel_rfl) (by kernel_rfl) (fun _ _ _ h => h) (by rfl) (by assumption) ?_
                try simp only [Act.put, List.setIfInBounds_toArray, List.set_cons_zero, List.set_cons_succ]
                refine take_no (i := 27) rfl (by kernel_rfl) (by kernel_rfl) (by kernel_rfl) (fun _ _ _ h => h) (by rfl) (by assumption) ?_
                try simp only [Act.put, List.setIfInBounds_toArray, List.set_cons_zero, List.set_cons_succ]
                refine take_yes (i := 28) (v := ?_) rfl (by kernel_rfl) (by kernel_rfl) (by kernel_rfl) (fun _ _ _ h => h) (by kernel_rfl) (by assumption) ?_ ?_
                rotate_left 1
                · (intro w hSw; (try dsimp only at hSw); go_simp; try with_reducible rfl)
                try simp only [Act.put, List.setIfInBounds_toArray, List.set_cons_zero, List.set_cons_succ]
                refine take_yes (i := 29) (v := ?_) rfl (by kernel_rfl) (by kernel_rfl) (by kernel_rfl) (fun _ _ _ h => h) (by kernel_rfl) (by assumption) ?_ ?_
                rotate_left 1
                · (intro w hSw; (try dsimp only at hSw); go_simp; try with_reducible rfl)
                try simp only [Act.put, List.setIfInBounds_toArray, List.set_cons_zero, List.set_cons_succ]
                refine take_yes (i := 30) (v := ?_) rfl (by kernel_rfl) (by kernel_rfl) (by kernel_rfl) (fun _ _ _ h => h) (by kernel_rfl) (by assumption) ?_ ?_
                rotate_left 1
                · (intro w hSw; (try dsimp only at hSw); go_simp; try with_reducible rfl)
                try simp only [Act.put, List.setIfInBounds_toArray, List.set_cons_zero, List.set_cons_succ]
                refine take_yes (i := 31) (v := ?_) rfl (by kernel_rfl) (by kernel_rfl) (by kernel_rfl) (fun _ _ _ h => h) (by kernel_rfl) (by assumption) ?_ ?_
                rotate_left 1
                · (intro w hSw; (try dsimp only at hSw); go_simp; try with_reducible rfl)
                try simp only [Act.put, List.setIfInBounds_toArray, List.set_cons_zero, List.set_cons_succ]
                refine take_yes (i := 32) (v := ?_) rfl (by kernel_rfl) (by kernel_rfl) (by kernel_rfl) (fun _ _ _ h => h) (by kernel_rfl) (by assumption) ?_ ?_
                rotate_left 1
                · (intro w hSw; (try dsimp only at hSw); go_simp; try with_reducible rfl)
                try simp only [Act.put, List.setIfInBounds_toArray, List.set_cons_zero, List.set_cons_succ]
                refine take_yes (i := 33) (v := ?_) rfl (by kernel_rfl) (by kernel_rfl) (by kernel_rfl) (fun _ _ _ h => h) (by kernel_rfl) (by assumption) ?_ ?_
                rotate_left 1
                · (intro w hSw; (try dsimp only at hSw); go_simp; try with_reducible rfl)
                try simp only [Act.put, List.setIfInBounds_toArray, List.set_cons_zero, List.set_cons_succ]
                refine take_yes (i := 34) (v := ?_) rfl (by kernel_rfl) (by kernel_rfl) (by kernel_rfl) (fun _ _ _ h => h) (by kernel_rfl) (by assumption) ?_ ?_
                rotate_left 1
                · (intro w hSw; (try dsimp only at hSw); go_simp; try with_reducible rfl)
                try simp only [Act.put, List.setIfInBounds_toArray, List.set_cons_zero, List.set_cons_succ]
                refine take_yes (i := 35) (v := ?_) rfl (by kernel_rfl) (by kernel_rfl) (by kernel_rfl) (fun _ _ _ h => h) (by kernel_rfl) (by assumption) ?_ ?_
                rotate_left 1
                · (intro w hSw; (try dsimp only at hSw); go_simp; try with_reducible rfl)
                try simp only [Act.put, List.setIfInBounds_toArray, List.set_cons_zero, List.set_cons_succ]
                refine take_yes (i := 36) (v := ?_) rfl (by kernel_rfl) (by kernel_rfl) (by kernel_rfl) (fun _ _ _ h => h) (by kernel_rfl) (by assumption) ?_ ?_
                rotate_left 1
                · (intro w hSw; (try dsimp only at hSw); go_simp; try with_reducible rfl)
                try simp only [Act.put, List.setIfInBounds_toArray, List.set_cons_zero, List.set_cons_succ]
                refine take_yes (i := 37) (v := ?_) rfl (by kernel_rfl) (by kernel_rfl) (by kernel_rfl) (fun _ _ _ h => h) (by kernel_rfl) (by assumption) ?_ ?_
                rotate_left 1
                · (intro w hSw; (try dsimp only at hSw); go_simp; try with_reducible rfl)
                try simp only [Act.put, List.setIfInBounds_toArray, List.set_cons_zero, List.set_cons_succ]
                refine take_yes (i := 38) (v := ?_) rfl (by kernel_rfl) (by kernel_rfl) (by kernel_rfl) (fun _ _ _ h => h) (by kernel_rfl) (by assumption) ?_ ?_
                rotate_left 1
                · (intro w hSw; (try dsimp only at hSw); go_simp; try with_reducible rfl)
                try simp only [Act.put, List.setIfInBounds_toArray, List.set_cons_zero, List.set_cons_succ]
                refine wpAnyH_ready (rs := [39]) (by kernel_rfl) (by simp) ?_
                refine cons_drop (i := 39) rfl (fun K hK => ?_) AllReadyH.nil
                go_simp
                refine (known_any _).mono ?_
                rintro e w' ⟨rfl, hb⟩
                go_simp
                refine hK.out _ _ ?_ (fun hHeld2 => ?_)
                · obtain ⟨r0, r1, r2, r3⟩ := hHeld
                  exact ⟨bl_cell hb r0, bl_cell hb r1, bl_cell hb r2, bl_cell hb r3⟩
                clear hK K hHeld
                try simp only [Act.put, List.setIfInBounds_toArray, List.set_cons_zero, List.set_cons_succ]
                refine take_yes (i := 40) (v := ?_) rfl (by kernel_rfl) (by kernel_rfl) (by kernel_rfl) (fun _ _ _ h => h) (by kernel_rfl) (by assumption) ?_ ?_
                rotate_left 1
                · (intro w hSw; (try dsimp only at hSw); go_simp; try with_reducible rfl)
                try simp only [Act.put, List.setIfInBounds_toArray, List.set_cons_zero, List.set_cons_succ]
                refine take_yes (i := 41) (v := ?_) rfl (by kernel_rfl) (by kernel_rfl) (by kernel_rfl) (fun _ _ _ h => h) (by kernel_rfl) (by assumption) ?_ ?_
                rotate_left 1
                · (intro w hSw; (try dsimp only at hSw); go_simp; try with_reducible rfl)
                try simp only [Act.put, List.setIfInBounds_toArray, List.set_cons_zero, List.set_cons_succ]
                refine wpAnyH_done (by kernel_rfl) ?_ _
                go_wp2_with fail
                go_ret
                exact ⟨rfl, HBF.out.trans ((bl_then HB7.out ((bl_drew (Below.refl _ _)).trans hb)).mono (by have := HBF.out.size; omega))⟩
              · have ho2 := oldE_at HLK.out.nodup h2
                rw [h3, HLK.out.get, HLK.out.old] at ho2
                have heq := fun w => run_eql_en x x w
                rw [ho2.2] at y0 y1 y2
                rw [sameEn_self] at heq
                simp only [h1, ho2.1, ho2.2, Option.isSome_some]
                have hkl : k0 < er.length := (List.getElem?_eq_some_iff.1 h2).1
                have hkz : (0 : Int) ≤ (k0 : Int) := by omega
                have hkz2 : (k0 : Int) < (er.length : Int) := by omega
                have hel := HR7.out.e.len
                unfold maxLen at hel
                rcases HR7.out.e with ⟨g1, g2⟩ | ⟨b, o, c2, g1, _, _, hrow⟩
                · rw [g2] at hkl; simp at hkl
                have hA4 : A4 = some ⟨b, o, none⟩ := by injection g1
                obtain ⟨e0, e1, e2⟩ := EnAt.ofRow hrow h2
                subst hA4
                have hdz : decide ((0 : Int) ≤ (k0 : Int)) = true := decide_eq_true hkz
                clear h2 h3 ho2 g1 hrow
                go_wp2_with fail
                refine wp_region_held_drew (S := (fun w' => w'.cell? ⟨w.heap.size + 1, 0, none⟩ = some (.int .i64 t0) ∧ w'.cell? ⟨w5.heap.size, 0, none⟩ = some (.int .i64 x.i) ∧ w'.cell? ⟨w5.heap.size, 1, none⟩ = some (.int .i64 x.r) ∧ w'.cell? ⟨w5.heap.size, 2, none⟩ = some (.int .i64 x.m) ∧ w'.cell? ⟨q, 2, none⟩ = some (.slice (some ⟨b, o, none⟩) er.length c4) ∧ w'.cell? ⟨b, o + k0 * 3, none⟩ = some (.int .i64 x.i) ∧ w'.cell? ⟨b, o + k0 * 3 + 1, none⟩ = some (.int .i64 x.r) ∧ w'.cell? ⟨b, o + k0 * 3 + 2, none⟩ = some (.int .i64 x.m))) (by kernel_rfl) ⟨n0', y0, y1, y2, d2', e0, e1, e2⟩ (fun hHeld => ?_)
                refine take_yes (i := 0) (v := ?_) rfl (by kernel_rfl) (by kernel_rfl) (by kernel_rfl) (fun _ _ _ h => h) (by kernel_rfl) (by assumption) ?_ ?_
                rotate_left 1
                · (intro w hSw; (try dsimp only at hSw); go_simp; try with_reducible rfl)
                try simp only [Act.put, List.setIfInBounds_toArray, List.set_cons_zero, List.set_cons_succ]
                refine take_yes (i := 1) (v := ?_) rfl (by kernel_rfl) (by kernel_rfl) (by kernel_rfl) (fun _ _ _ h => h) (by kernel_rfl) (by assumption) ?_ ?_
                rotate_left 1
                · (intro w hSw; (try dsimp only at hSw); go_simp; try with_reducible rfl)
                try simp only [Act.put, List.setIfInBounds_toArray, List.set_cons_zero, List.set_cons_succ]
                refine take_yes (i := 2) (v := ?_) rfl (by kernel_rfl) (by kernel_rfl) (by kernel_rfl) (fun _ _ _ h => h) (by kernel_rfl) (by assumption) ?_ ?_
                rotate_left 1
                · (intro w hSw; (try dsimp only at hSw); go_simp; try with_reducible rfl)
                try simp only [Act.put, List.setIfInBounds_toArray, List.set_cons_zero, List.set_cons_succ]
                refine take_yes (i := 3) (v := ?_) rfl (by kernel_rfl) (by kernel_rfl) (by kernel_rfl) (fun _ _ _ h => h) (by kernel_rfl) (by assumption) ?_ ?_
                rotate_left 1
                · (intro w hSw; (try dsimp only at hSw); go_simp; try with_reducible rfl)
                try simp only [Act.put, List.setIfInBounds_toArray, List.set_cons_zero, List.set_cons_succ]
                refine take_yes (i := 4) (v := ?_) rfl (by kernel_rfl) (by kernel_rfl) (by kernel_rfl) (fun _ _ _ h => h) (by kernel_rfl) (by assumption) ?_ ?_
                rotate_left 1
                · (intro w hSw; (try dsimp only at hSw); go_simp; try with_reducible rfl)
                try simp only [Act.put, List.setIfInBounds_toArray, List.set_cons_zero, List.set_cons_succ]
                refine take_yes (i := 5) (v := ?_) rfl (by kernel_rfl) (by kernel_rfl) (by kernel_rfl) (fun _ _ _ h => h) (by kernel_rfl) (by assumption) ?_ ?_
                rotate_left 1
                · (intro w hSw; (try dsimp only at hSw); go_simp; try with_reducible rfl)
                try simp only [Act.put, List.setIfInBounds_toArray, List.set_cons_zero, List.set_cons_succ]
                refine take_yes (i := 6) (v := ?_) rfl (by kernel_rfl) (by kernel_rfl) (by kernel_rfl) (fun _ _ _ h => h) (by kernel_rfl) (by assumption) ?_ ?_
                rotate_left 1
                · (intro w hSw; (try dsimp only at hSw); go_simp; try with_reducible rfl)
                try simp only [Act.put, List.setIfInBounds_toArray, List.set_cons_zero, List.set_cons_succ]
                refine take_yes (i := 7) (v := ?_) rfl (by kernel_rfl) (by kernel_rfl) (by kernel_rfl) (fun _ _ _ h => h) (by kernel_rfl) (by assumption) ?_ ?_
                rotate_left 1
                · (intro w hSw; (try dsimp only at hSw); go_simp; try with_reducible rfl)
                try simp only [Act.put, List.setIfInBounds_toArray, List.set_cons_zero, List.set_cons_succ]
                refine take_yes (i := 8) (v := ?_) rfl (by kernel_rfl) (by kernel_rfl) (by kernel_rfl) (fun _ _ _ h => h) (by kernel_rfl) (by assumption) ?_ ?_
                rotate_left 1
                · (intro w hSw; (try dsimp only at hSw); go_simp; try with_reducible rfl)
                try simp only [Act.put, List.setIfInBounds_toArray, List.set_cons_zero, List.set_cons_succ]
                refine take_yes (i := 9) (v := ?_) rfl (by kernel_rfl) (by kernel_rfl) (by kernel_rfl) (fun _ _ _ h => h) (by kernel_rfl) (by assumption) ?_ ?_
                rotate_left 1
                · (intro w hSw; (try dsimp only at hSw); go_simp; try with_reducible rfl)
                try simp only [Act.put, List.setIfInBounds_toArray, List.set_cons_zero, List.set_cons_succ]
                refine take_yes (i := 10) (v := ?_) rfl (by kernel_rfl) (by kernel_rfl) (by kernel_rfl) (fun _ _ _ h => h) (by kernel_rfl) (by assumption) ?_ ?_
                rotate_left 1
                · (intro w hSw; (try dsimp only at hSw); go_simp; try with_reducible rfl)
                try simp only [Act.put, List.setIfInBounds_toArray, List.set_cons_zero, List.set_cons_succ]
                refine take_yes (i := 11) (v := ?_) rfl (by kernel_rfl) (by kernel_rfl) (by kernel_rfl) (fun _ _ _ h => h) (by kernel_rfl) (by assumption) ?_ ?_
                rotate_left 1
                · (intro w hSw; (try dsimp only at hSw); go_simp; try with_reducible rfl)
                try simp only [Act.put, List.setIfInBounds_toArray, List.set_cons_zero, List.set_cons_succ]
                refine take_yes (i := 12) (v := ?_) rfl (by kernel_rfl) (by kernel_rfl) (by kernel_rfl) (fun _ _ _ h => h) (by kernel_rfl) (by assumption) ?_ ?_
                rotate_left 1
                · (intro w hSw; (try dsimp only at hSw); go_simp; try with_reducible rfl)
                try simp only [Act.put, List.setIfInBounds_toArray, List.set_cons_zero, List.set_cons_succ]
                refine take_yes (i := 13) (v := ?_) rfl (by kernel_rfl) (by kernel_rfl) (by kernel_rfl) (fun _ _ _ h => h) (by kernel_rfl) (by assumption) ?_ ?_
                rotate_left 1
                · (intro w hSw; (try dsimp only at hSw); go_simp; try with_reducible rfl)
                try simp only [Act.put, List.setIfInBounds_toArray, List.set_cons_zero, List.set_cons_succ]
                refine take_yes (i := 14) (v := ?_) rfl (by kernel_rfl) (by kernel_rfl) (by kernel_rfl) (fun _ _ _ h => h) (by kernel_rfl) (by assumption) ?_ ?_
                rotate_left 1
                · (intro w hSw; (try dsimp only at hSw); go_simp; try with_reducible rfl)
                try simp only [Act.put, List.setIfInBounds_toArray, List.set_cons_zero, List.set_cons_succ]
                refine take_yes (i := 15) (v := ?_) rfl (by kernel_rfl) (by kernel_rfl) (by kernel_rfl) (fun _ _ _ h => h) (by kernel_rfl) (by assumption) ?_ ?_
                rotate_left 1
                · (intro w hSw; (try dsimp only at hSw); go_simp; try with_reducible rfl)
                try simp only [Act.put, List.setIfInBounds_toArray, List.set_cons_zero, List.set_cons_succ]
                refine take_yes (i := 16) (v := ?_) rfl (by kernel_rfl) (by kernel_rfl) (by kernel_rfl) (fun _ _ _ h => h) (by kernel_rfl) (by assumption) ?_ ?_
                rotate_left 1
                · (intro w hSw; (try dsimp only at hSw); go_simp; try with_reducible rfl)
                try simp only [Act.put, List.setIfInBounds_toArray, List.set_cons_zero, List.set_cons_succ]
                refine take_yes (i := 17) (v := ?_) rfl (by kernel_rfl) (by kernel_rfl) (by kernel_rfl) (fun _ _ _ h => h) (by kernel_rfl) (by assumption) ?_ ?_
                rotate_left 1
                · (intro w hSw; (try dsimp only at hSw); go_simp; try with_reducible rfl)
                try simp only [Act.put, List.setIfInBounds_toArray, List.set_cons_zero, List.set_cons_succ]
                refine take_yes (i := 18) (v := ?_) rfl (by kernel_rfl) (by kernel_rfl) (by kernel_rfl) (fun _ _ _ h => h) (by kernel_rfl) (by assumption) ?_ ?_
                rotate_left 1
                · (intro w hSw; (try dsimp only at hSw); go_simp; try with_reducible rfl)
                try simp only [Act.put, List.setIfInBounds_toArray, List.set_cons_zero, List.set_cons_succ]
                refine take_yes (i := 19) (v := ?_) rfl (by kernel_rfl) (by kernel_rfl) (by kernel_rfl) (fun _ _ _ h => h) (by kernel_rfl) (by assumption) ?_ ?_
                rotate_left 1
                · (intro w hSw; (try dsimp only at hSw); go_simp; try with_reducible rfl)
                try simp only [Act.put, List.setIfInBounds_toArray, List.set_cons_zero, List.set_cons_succ]
                refine take_yes (i := 20) (v := ?_) rfl (by kernel_rfl) (by kernel_rfl) (by kernel_rfl) (fun _ _ _ h => h) (by kernel_rfl) (by assumption) ?_ ?_
                rotate_left 1
                · (intro w hSw; (try dsimp only at hSw); go_simp; try with_reducible rfl)
                try simp only [Act.put, List.setIfInBounds_toArray, List.set_cons_zero, List.set_cons_succ]
                refine take_yes (i := 21) (v := ?_) rfl (by kernel_rfl) (by kernel_rfl) (by kernel_rfl) (fun _ _ _ h => h) (by kernel_rfl) (by assumption) ?_ ?_
                rotate_left 1
                · (intro w hSw; (try dsimp only at hSw); go_simp; try with_reducible rfl)
                try simp only [Act.put, List.setIfInBounds_toArray, List.set_cons_zero, List.set_cons_succ]
                refine take_yes (i := 22) (v := ?_) rfl (by kernel_rfl) (by kernel_rfl) (by kernel_rfl) (fun _ _ _ h => h) (by kernel_rfl) (by assumption) ?_ ?_
                rotate_left 1
                · (intro w hSw; (try dsimp only at hSw); go_simp; try with_reducible rfl)
                try simp only [Act.put, List.setIfInBounds_toArray, List.set_cons_zero, List.set_cons_succ]
                refine take_yes (i := 23) (v := ?_) rfl (by kernel_rfl) (by kernel_rfl) (by kernel_rfl) (fun _ _ _ h => h) (by kernel_rfl) (by assumption) ?_ ?_
                rotate_left 1
                · (intro w hSw; (try dsimp only at hSw); go_simp; try with_reducible rfl)
                try simp only [Act.put, List.setIfInBounds_toArray, List.set_cons_zero, List.set_cons_succ]
                refine take_yes (i := 24) (v := ?_) rfl (by kernel_rfl) (by kernel_rfl) (by kernel_rfl) (fun _ _ _ h => h) (by kernel_rfl) (by assumption) ?_ ?_
                rotate_left 1
                · (intro w hSw; (try dsimp only at hSw); go_simp; try with_reducible rfl)
                try simp only [Act.put, List.setIfInBounds_toArray, List.set_cons_zero, List.set_cons_succ]
                refine take_yes (i := 25) (v := ?_) rfl (by kernel_rfl) (by kernel_rfl) (by kernel_rfl) (fun _ _ _ h => h) (by kernel_rfl) (by assumption) ?_ ?_
                rotate_left 1
                · (intro w hSw; (try dsimp only at hSw); go_simp; try with_reducible rfl)
                try simp only [Act.put, List.setIfInBounds_toArray, List.set_cons_zero, List.set_cons_succ]
                refine take_yes (i := 26) (v := ?_) rfl (by kernel_rfl) (by kernel_rfl) (by kernel_rfl) (fun _ _ _ h => h) (by kernel_rfl) (by assumption) ?_ ?_
                rotate_left 1
                · (intro w hSw; (try dsimp only at hSw); go_simp; try with_reducible rfl)
                try simp only [Act.put, List.setIfInBounds_toArray, List.set_cons_zero, List.set_cons_succ]
                refine take_yes (i := 27) (v := ?_) rfl (by kernel_rfl) (by kernel_rfl) (by kernel_rfl) (fun _ _ _ h => h) (by kernel_rfl) (by assumption) ?_ ?_
                rotate_left 1
                · (intro w hSw; (try dsimp only at hSw); go_simp; try with_reducible rfl)
                try simp only [Act.put, List.setIfInBounds_toArray, List.set_cons_zero, List.set_cons_succ]
                refine take_yes (i := 28) (v := ?_) rfl (by kernel_rfl) (by kernel_rfl) (by kernel_rfl) (fun _ _ _ h => h) (by kernel_rfl) (by assumption) ?_ ?_
                rotate_left 1
                · (intro w hSw; (try dsimp only at hSw); go_simp; try with_reducible rfl)
                try simp only [Act.put, List.setIfInBounds_toArray, List.set_cons_zero, List.set_cons_succ]
                refine take_yes (i := 29) (v := ?_) rfl (by kernel_rfl) (by kernel_rfl) (by kernel_rfl) (fun _ _ _ h => h) (by kernel_rfl) (by assumption) ?_ ?_
                rotate_left 1
                · (intro w hSw; (try dsimp only at hSw); go_simp; try with_reducible rfl)
                try simp only [Act.put, List.setIfInBounds_toArray, List.set_cons_zero, List.set_cons_succ]
                refine take_yes (i := 30) (v := ?_) rfl (by kernel_rfl) (by kernel_rfl) (by kernel_rfl) (fun _ _ _ h => h) (by kernel_rfl) (by assumption) ?_ ?_
                rotate_left 1
                · (intro w hSw; (try dsimp only at hSw); go_simp; try with_reducible rfl)
                try simp only [Act.put, List.setIfInBounds_toArray, List.set_cons_zero, List.set_cons_succ]
                refine take_yes (i := 31) (v := ?_) rfl (by kernel_rfl) (by kernel_rfl) (by kernel_rfl) (fun _ _ _ h => h) (by kernel_rfl) (by assumption) ?_ ?_
                rotate_left 1
                · (intro w hSw; (try dsimp only at hSw); go_simp; try with_reducible rfl)
                try simp only [Act.put, List.setIfInBounds_toArray, List.set_cons_zero, List.set_cons_succ]
                refine take_yes (i := 32) (v := ?_) rfl (by kernel_rfl) (by kernel_rfl) (by kernel_rfl) (fun _ _ _ h => h) (by kernel_rfl) (by assumption) ?_ ?_
                rotate_left 1
                · (intro w hSw; (try dsimp only at hSw); go_simp; try with_reducible rfl)
                try simp only [Act.put, List.setIfInBounds_toArray, List.set_cons_zero, List.set_cons_succ]
                refine take_no (i := 33) rfl (by kernel_rfl) (by kernel_rfl) (by kernel_rfl) (fun _ _ _ h => h) (by rfl) (by assumption) ?_
                try simp only [Act.put, List.setIfInBounds_toArray, List.set_cons_zero, List.set_cons_succ]
                refine take_no (i := 34) rfl (by kernel_rfl) (by kernel_rfl) (by kernel_rfl) (fun _ _ _ h => h) (by rfl) (by assumption) ?_
                try simp only [Act.put, List.setIfInBounds_toArray, List.set_cons_zero, List.set_cons_succ]
                refine take_no (i := 35) rfl (by kernel_rfl) (by kernel_rfl) (by kernel_rfl) (fun _ _ _ h => h) (by rfl) (by assumption) ?_
                try simp only [Act.put, List.setIfInBounds_toArray, List.set_cons_zero, List.set_cons_succ]
                refine take_yes (i := 36) (v := ?_) rfl (by kernel_rfl) (by kernel_rfl) (by kernel_rfl) (fun _ _ _ h => h) (by kernel_rfl) (by assumption) ?_ ?_
                rotate_left 1
                · (intro w hSw; (try dsimp only at hSw); go_simp; try with_reducible rfl)
                try simp only [Act.put, List.setIfInBounds_toArray, List.set_cons_zero, List.set_cons_succ]
                refine take_yes (i := 37) (v := ?_) rfl (by kernel_rfl) (by kernel_rfl) (by kernel_rfl) (fun _ _ _ h => h) (by kernel_rfl) (by assumption) ?_ ?_
                rotate_left 1
                · (intro w hSw; (try dsimp only at hSw); go_simp; try with_reducible rfl)
                try simp only [Act.put, List.setIfInBounds_toArray, List.set_cons_zero, List.set_cons_succ]
                refine take_yes (i := 38) (v := ?_) rfl (by kernel_rfl) (by kernel_rfl) (by kernel_rfl) (fun _ _ _ h => h) (by kernel_rfl) (by assumption) ?_ ?_
                rotate_left 1
                · (intro w hSw; (try dsimp only at hSw); go_simp; try with_reducible rfl)
                try simp only [Act.put, List.setIfInBounds_toArray, List.set_cons_zero, List.set_cons_succ]
                refine wpAnyH_ready (rs := [39]) (by kernel_rfl) (by simp) ?_
                refine cons_drop (i := 39) rfl (fun K hK => ?_) AllReadyH.nil
                go_simp
                refine (known_any _).mono ?_
                rintro e w' ⟨rfl, hb⟩
                go_simp
                refine hK.out _ _ ?_ (fun hHeld2 => ?_)
                · obtain ⟨r0, r1, r2, r3, r4, r5, r6, r7⟩ := hHeld
                  exact ⟨bl_cell hb r0, bl_cell hb r1, bl_cell hb r2, bl_cell hb r3, bl_cell hb r4, bl_cell hb r5, bl_cell hb r6, bl_cell hb r7⟩
                clear hK K hHeld
                try simp only [Act.put, List.setIfInBounds_toArray, List.set_cons_zero, List.set_cons_succ]
                refine take_yes (i := 40) (v := ?_) rfl (by kernel_rfl) (by kernel_rfl) (by kernel_rfl) (fun _ _ _ h => h) (by kernel_rfl) (by assumption) ?_ ?_
                rotate_left 1
                · (intro w hSw; (try dsimp only at hSw); go_simp; try with_reducible rfl)
                try simp only [Act.put, List.setIfInBounds_toArray, List.set_cons_zero, List.set_cons_succ]
                refine take_yes (i := 41) (v := ?_) rfl (by kernel_rfl) (by kernel_rfl) (by kernel_rfl) (fun _ _ _ h => h) (by kernel_rfl) (by assumption) ?_ ?_
                rotate_left 1
                · (intro w hSw; (try dsimp only at hSw); go_simp; try with_reducible rfl)
                try simp only [Act.put, List.setIfInBounds_toArray, List.set_cons_zero, List.set_cons_succ]
                refine wpAnyH_done (by kernel_rfl) ?_ _
                go_wp2_with fail
                go_ret
                exact ⟨rfl, HBF.out.trans ((bl_then HB7.out ((bl_drew (Below.refl _ _)).trans hb)).mono (by have := HBF.out.size; omega))⟩
  · have k1 : 60 < (acts.length : Int) := by omega
    go_enter Try.func7, Try.ntmps7
    go_wp2_with (go_at_call 10; refine (known_any _).mono ?_; rintro e w' ⟨rfl, hb⟩)
    go_ret
    exact ⟨rfl, (bl_alloc (bl_alloc (Below.refl _ _) _) _).trans (hb.mono (by simp; omega))⟩
end Go.Proofs.Ytfnijjjfodpnnaa
