/- Ledger: does, beside the document's. -/
import Derived.Test.YtfnijjjfodpnnaaLedAG
namespace Go.Proofs.Ytfnijjjfodpnnaa
open Go.RowKit Go.Shelf
set_option linter.unusedVariables false
set_option linter.unusedSimpArgs false
/-- No element of a slice lies in block p. -/
def NotIn (p : Nat) (v : Value) : Prop := ∀ b o n c, v = .slice (some ⟨b, o, none⟩) n c → n ≠ 0 → b ≠ p
theorem FarS.notIn {B p : Nat} {v : Value} (h : FarS B v) (hp : p < B) : NotIn p v := fun b o n c hv _ => by have := h b o n c hv; omega
section
variable {α : Type} {enc : α → List Value} {k : Nat}
/-- What was read ahead is read where nothing that lay then has turned. -/
theorem sat_old {w0 w4 W : World} {v : Value} {xs0 xs : List α} (hk : ∀ x, (enc x).length = k) (hk0 : 0 < k) (h0 : SAt enc k w0 v xs0) (h4 : SAt enc k w4 v xs) (hW : ∀ q, q < w0.heap.size → W.heap[q]? = w4.heap[q]?) : SAt enc k W v xs := by
  rcases h4 with h | ⟨b, o, c, h1, h2, h3, h4⟩
  · exact Or.inl h
  · refine Or.inr ⟨b, o, c, h1, h2, h3, fun j x hj i u hi => ?_⟩
    rcases h0 with ⟨g1, -⟩ | ⟨b', o', c', g1, g2, g3, g4⟩
    · rw [g1] at h1; cases h1
    · rw [g1] at h1
      injection h1 with e1 e2 e3
      injection e1 with e1
      injection e1 with e1 e4
      subst e1
      have hpos : 0 < xs0.length := by
        have := (List.getElem?_eq_some_iff.1 hj).1
        omega
      have hx0 : xs0[0]? = some xs0[0] := List.getElem?_eq_getElem hpos
      have hl0 : 0 < (enc xs0[0]).length := by rw [hk]; exact hk0
      have hu0 : (enc xs0[0])[0]? = some (enc xs0[0])[0] := List.getElem?_eq_getElem hl0
      have hq := World.block_lt_of_cell? w0 _ (g4 0 _ hx0 0 _ hu0)
      exact (World.cell?_of_block (w := w4) (a := ⟨b', _, none⟩) (hW b' hq)).trans (h4 j x hj i u hi)
theorem sat_far {w4 W : World} {v : Value} {xs : List α} {B : Nat} (h4 : SAt enc k w4 v xs) (hf : FarS B v) (hW : ∀ q, B ≤ q → W.heap[q]? = w4.heap[q]?) : SAt enc k W v xs := by
  rcases h4 with h | ⟨b, o, c, h1, h2, h3, h4⟩
  · exact Or.inl h
  · exact Or.inr ⟨b, o, c, h1, h2, h3, fun j x hj i u hi => (World.cell?_of_block (w := w4) (a := ⟨b, _, none⟩) (hW b (hf _ _ _ _ h1))).trans (h4 j x hj i u hi)⟩
/-- What reads in a world lies in none of the blocks that are laid later. -/
theorem SAt.notIn_new {w : World} {v : Value} {xs : List α} {p : Nat} (hk : ∀ x, (enc x).length = k) (hk0 : 0 < k) (h : SAt enc k w v xs) (hp : w.heap.size ≤ p) : NotIn p v := fun b o n c hv hn => by
  rcases h with ⟨h, -⟩ | ⟨b', o', c', h1, h2, h3, h4⟩
  · rw [h] at hv; cases hv
  · rw [h1] at hv
    injection hv with e1 e2 e3
    injection e1 with e1
    injection e1 with e1 e4
    have hpos : 0 < xs.length := by omega
    have hx0 : xs[0]? = some xs[0] := List.getElem?_eq_getElem hpos
    have hl0 : 0 < (enc xs[0]).length := by rw [hk]; exact hk0
    have hu0 : (enc xs[0])[0]? = some (enc xs[0])[0] := List.getElem?_eq_getElem hl0
    have := World.block_lt_of_cell? w _ (h4 0 _ hx0 0 _ hu0)
    have : b' < w.heap.size := this
    omega
theorem sat_mov {W w6 : World} {v : Value} {xs : List α} {p r : Nat} (h : SAt enc k W v xs) (hm : Mov p r W w6) (hp : NotIn p v) (hr : ∃ es c, W.heap[r]? = some (.map es c)) : SAt enc k w6 v xs := by
  rcases h with h | ⟨b, o, c, h1, h2, h3, h4⟩
  · exact Or.inl h
  · refine Or.inr ⟨b, o, c, h1, h2, h3, fun j x hj i u hi => ?_⟩
    have hc := h4 j x hj i u hi
    refine hm.cell hc (hp _ _ _ _ h1 (by have := (List.getElem?_eq_some_iff.1 hj).1; omega)) (fun e => ?_)
    obtain ⟨es, cl, hr⟩ := hr
    subst e
    simp [World.cell?, hr] at hc
end
theorem LedgerAt.map {w : World} {p r : Nat} {share room : Int} {es : List En} {gs : List Ling} (h : LedgerAt w p r share room es gs) : ∃ es c, w.heap[r]? = some (.map es c) := by
  obtain ⟨v, -, -, es', c, h1, -⟩ := h
  exact ⟨es', c, h1⟩
/-- A ledger, and the document's of the same. -/
structure Both (w : World) (p r : Nat) (share room : Int) (es er : List En) (gs : List Ling) (ve vl : Value) (n : Nat) : Prop where
  led : LedgerAt w p r share room es gs
  ref : RefAt w ve vl er gs
  link : Linked er es
  sane : Sane es gs n
  ne : NotIn p ve
  nl : NotIn p vl
  pos : ∀ x ∈ gs, 0 < x.r
theorem Both.below {w W : World} {p r : Nat} {share room : Int} {es er : List En} {gs : List Ling} {ve vl : Value} {n : Nat} (h : Both w p r share room es er gs ve vl n) (hb : Below w.heap.size w W) : Both W p r share room es er gs ve vl n :=
  ⟨h.led.below hb, h.ref.below hb, h.link, h.sane, h.ne, h.nl, h.pos⟩
theorem Both.more {w : World} {p r : Nat} {share room : Int} {es er : List En} {gs : List Ling} {ve vl : Value} {n m : Nat} (h : Both w p r share room es er gs ve vl n) (hm : n ≤ m) : Both w p r share room es er gs ve vl m :=
  ⟨h.led, h.ref, h.link, h.sane.more hm, h.ne, h.nl, h.pos⟩
/-- What the document's turn leaves, once it is stored (w5), and the ledger's turn (w6). -/
theorem both_step {w0 w4 w5 w6 : World} {p r : Nat} {share room : Int} {es er es' er' : List En} {gs gs' : List Ling} {ve vl ve' vl' : Value} {n m B : Nat}
    (h : Both w0 p r share room es er gs ve vl n) (hp : p < B) (hr4 : RefAt w4 ve' vl' er' gs') (hfe : FarS B ve' ∨ ve' = ve) (hfl : FarS B vl' ∨ vl' = vl)
    (h5 : ∀ q, (q < w0.heap.size ∨ B ≤ q) → w5.heap[q]? = w4.heap[q]?) (hmap : ∃ es c, w5.heap[r]? = some (.map es c)) (hm : Mov p r w5 w6) (hl : LedgerAt w6 p r share room es' gs') (hk : Linked er' es') (hs : Sane es' gs' m) (hps : ∀ x ∈ gs', 0 < x.r) : Both w6 p r share room es' er' gs' ve' vl' m := by
  have he : NotIn p ve' := by
    rcases hfe with h1 | rfl
    · exact h1.notIn hp
    · exact h.ne
  have hg : NotIn p vl' := by
    rcases hfl with h1 | rfl
    · exact h1.notIn hp
    · exact h.nl
  refine ⟨hl, ⟨sat_mov ?_ hm he hmap, sat_mov ?_ hm hg hmap⟩, hk, hs, he, hg, hps⟩
  · rcases hfe with h1 | rfl
    · exact sat_far hr4.e h1 (fun q hq => h5 q (Or.inr hq))
    · exact sat_old (fun _ => rfl) (by decide) h.ref.e hr4.e (fun q hq => h5 q (Or.inl hq))
  · rcases hfl with h1 | rfl
    · exact sat_far hr4.g h1 (fun q hq => h5 q (Or.inr hq))
    · exact sat_old (fun _ => rfl) (by decide) h.ref.g hr4.g (fun q hq => h5 q (Or.inl hq))
theorem pos_ling {gs : List Ling} (h : ∀ x ∈ gs, 0 < x.r) (n till : Int) : ∀ x ∈ lingG gs n till, 0 < x.r := by
  unfold lingG
  intro x hx
  split at hx
  · rename_i hn
    rcases List.mem_append.1 hx with hx | hx
    · exact h x hx
    · simp at hx; subst hx; exact hn
  · exact h x hx
/-- Rates that are not zero do not lie in a block of zeros. -/
theorem ling_zero {w : World} {v : Value} {gs : List Ling} {b : Nat} {t : TypeId} {a0 a1 a2 a3 : Value} (h : SAt Ling.cells 2 w v gs) (hp : ∀ x ∈ gs, 0 < x.r) (hb : w.heap[b]? = some (.cells #[.int .i64 0, .int .i64 0, .slice none 0 0, .slice none 0 0] t (0, 0))) :
    SAt Ling.cells 2 ((((w.setCell ⟨b, 0, none⟩ a0).setCell ⟨b, 1, none⟩ a1).setCell ⟨b, 2, none⟩ a2).setCell ⟨b, 3, none⟩ a3) v gs := by
  rcases h with h | ⟨q, o, c, h1, h2, h3, h4⟩
  · exact Or.inl h
  · refine Or.inr ⟨q, o, c, h1, h2, h3, fun j x hj i u hi => ?_⟩
    have hq : q ≠ b := fun e => by
      subst e
      have hx := hp x (List.mem_of_getElem? hj)
      have hc := h4 j x hj 0 _ rfl
      rw [cell_blk hb] at hc
      generalize o + j * 2 + 0 = m at hc
      rcases m with _ | _ | _ | _ | m <;> simp at hc <;> omega
    exact (World.cell?_of_block (w := w) (a := ⟨q, _, none⟩) (set4_other hq)).trans (h4 j x hj i u hi)
theorem link_give {er es : List En} {gs : List Ling} {n : Nat} (hl : Linked er es) (hs : Sane es gs n) (share room : Int) (x : En) (now : Int) :
    Linked (giveRL share room er gs x now) (giveE es x (fitsY share room er gs x now)) ∧ Sane (giveE es x (fitsY share room er gs x now)) gs n := by
  have h1 := sane_give hs hl.nodup' x share room now
  have hf := fits_eq hl hs.fine share room x now
  rw [hf] at h1
  refine ⟨?_, h1⟩
  unfold giveRL giveE
  by_cases hy : fitsY share room er gs x now = 0
  · rw [if_pos hy, if_pos hy]
    rw [hy] at hf
    exact hl.putNew x (fits_ok hf).2.1
  · rw [if_neg hy, if_neg hy]
    exact hl
theorem link_change {er es : List En} {gs : List Ling} {n : Nat} (hl : Linked er es) (hs : Sane es gs n) (hn : n < 1000000) (share room : Int) (x : En) (now till : Int) :
    Linked (if changeRY share room er gs x now till = 0 then insE x (delE er x.i) else er) (if changeRY share room er gs x now till = 0 then putE es x else es) ∧
    Sane (if changeRY share room er gs x now till = 0 then putE es x else es) (if changeRY share room er gs x now till = 0 then lingG gs ((oldE er x.i).r - x.r) till else gs) (n + 1) := by
  have hc := change_eq hl hs.fine share room x now till
  by_cases hy : changeRY share room er gs x now till = 0
  · rw [if_pos hy, if_pos hy, if_pos hy, hl.old]
    exact ⟨hl.put x, sane_change hs hl.nodup' hn x till (by rw [hc]; exact hy)⟩
  · rw [if_neg hy, if_neg hy, if_neg hy]
    exact ⟨hl, hs.more (by omega)⟩
theorem link_free {er es : List En} {gs : List Ling} {n : Nat} (hl : Linked er es) (hs : Sane es gs n) (hn : n < 1000000) (i till : Int) :
    Linked (if freeRY er i till = 0 then delE er i else er) (if freeRY er i till = 0 then delE es i else es) ∧
    Sane (if freeRY er i till = 0 then delE es i else es) (if freeRY er i till = 0 then lingG gs (oldE er i).r till else gs) (n + 1) := by
  by_cases hy : freeRY er i till = 0
  · rw [if_pos hy, if_pos hy, if_pos hy, hl.old]
    exact ⟨hl.del i, sane_free hs hl.nodup' hn i till⟩
  · rw [if_neg hy, if_neg hy, if_neg hy]
    exact ⟨hl, hs.more (by omega)⟩
/-- What does leaves. -/
def NextB (w w' : World) (p r : Nat) (share room : Int) (ve vl : Value) (n : Nat) (e : Ending) : Prop :=
  (∃ es' er' gs' ve' vl', e = .returned (.tuple #[refV share room ve' vl', .bool true]) ∧ Both w' p r share room es' er' gs' ve' vl' (n + 1) ∧ (FarS w.heap.size ve' ∨ ve' = ve) ∧ (FarS w.heap.size vl' ∨ vl' = vl)) ∧ Mov p r w w'
theorem ref_cells' {w : World} {b : Nat} {v0 v1 v2 v3 : Value} (h : w.heap[b]? = some (.cells #[v0, v1, v2, v3] 36 (0, 0))) :
    w.cell? ⟨b, 0, none⟩ = some v0 ∧ w.cell? ⟨b, 1, none⟩ = some v1 ∧ w.cell? ⟨b, 2, none⟩ = some v2 ∧ w.cell? ⟨b, 3, none⟩ = some v3 ∧
    w.frozen? ⟨b, 0, none⟩ = false ∧ w.frozen? ⟨b, 1, none⟩ = false ∧ w.frozen? ⟨b, 2, none⟩ = false ∧ w.frozen? ⟨b, 3, none⟩ = false := by
  refine ⟨by rw [cell_blk h]; rfl, by rw [cell_blk h]; rfl, by rw [cell_blk h]; rfl, by rw [cell_blk h]; rfl, ?_, ?_, ?_, ?_⟩ <;> simp [World.frozen?, h]
/-- The three blocks of does. -/
structure DX (n : Nat) (a : Turn) (share room : Int) (ve vl : Value) (w : World) : Prop where
  b4 : w.heap[n]? = some (.cells #[.int .i64 share, .int .i64 room, ve, vl] 36 (0, 0))
  b5 : w.heap[n + 1]? = some (.cells #[.int .i64 a.op, .int .i64 a.e.i, .int .i64 a.e.r, .int .i64 a.e.m, .int .i64 a.now, .int .i64 a.till] 32 (0, 0))
  b6 : w.heap[n + 2]? = some (.cells #[.int .i64 0, .int .i64 0, .slice none 0 0, .slice none 0 0] 36 (0, 0))
section
variable {n p r : Nat} {a : Turn} {share room : Int} {ve vl : Value} {w W : World}
theorem DX.lt (h : DX n a share room ve vl w) : n + 2 < w.heap.size := (Array.getElem?_eq_some_iff.1 h.b6).1
theorem DX.mov (h : DX n a share room ve vl w) (hm : Mov p r w W) (hp : p < n) (hr : r < n) : DX n a share room ve vl W := by
  have hl := h.lt
  exact ⟨(hm.block n (by omega) (by omega) (by omega)).trans h.b4, (hm.block (n + 1) (by omega) (by omega) (by omega)).trans h.b5, (hm.block (n + 2) (by omega) (by omega) (by omega)).trans h.b6⟩
theorem DX.below (h : DX n a share room ve vl w) (hb : Below w.heap.size w W) : DX n a share room ve vl W := by
  have hl := h.lt
  exact ⟨(hb.block n (by omega)).trans h.b4, (hb.block (n + 1) (by omega)).trans h.b5, (hb.block (n + 2) (by omega)).trans h.b6⟩
theorem DX.c5 (h : DX n a share room ve vl w) : w.cell? ⟨n + 1, 0, none⟩ = some (.int .i64 a.op) ∧ w.cell? ⟨n + 1, 1, none⟩ = some (.int .i64 a.e.i) ∧ w.cell? ⟨n + 1, 2, none⟩ = some (.int .i64 a.e.r) ∧ w.cell? ⟨n + 1, 3, none⟩ = some (.int .i64 a.e.m) ∧ w.cell? ⟨n + 1, 4, none⟩ = some (.int .i64 a.now) ∧ w.cell? ⟨n + 1, 5, none⟩ = some (.int .i64 a.till) := by
  refine ⟨?_, ?_, ?_, ?_, ?_, ?_⟩ <;> (rw [cell_blk h.b5]; rfl)
theorem DX.set (h : DX n a share room ve vl w) (ve' vl' : Value) : DX n a share room ve' vl' ((((w.setCell ⟨n, 0, none⟩ (.int .i64 share)).setCell ⟨n, 1, none⟩ (.int .i64 room)).setCell ⟨n, 2, none⟩ ve').setCell ⟨n, 3, none⟩ vl') :=
  ⟨set4_blk h.b4, (set4_other (by omega)).trans h.b5, (set4_other (by omega)).trans h.b6⟩
end
set_option maxRecDepth 100000 in
set_option maxHeartbeats 4000000 in
theorem does_any (p r : Nat) (share room : Int) (es er : List En) (gs : List Ling) (ve vl : Value) (a : Turn) (n : Nat) (w : World) (h : Both w p r share room es er gs ve vl n) (hn : n < 1000) :
    Calls Try.prog 12 #[.pointer (some ⟨p, 0, none⟩), refV share room ve vl, .agg #[.int .i64 a.op, .int .i64 a.e.i, .int .i64 a.e.r, .int .i64 a.e.m, .int .i64 a.now, .int .i64 a.till]] w fun e w' => NextB w w' p r share room ve vl n e := by
  obtain ⟨op, ⟨xi, xr, xm⟩, now, till⟩ := a
  simp only
  obtain ⟨A, c, rfl⟩ := h.ref.e.slice
  obtain ⟨A', c', rfl⟩ := h.ref.g.slice
  have hlt := h.led.lt
  have H := Lib.hid h
  clear h
  have hdx : DX w.heap.size ⟨op, ⟨xi, xr, xm⟩, now, till⟩ share room (.slice A er.length c) (.slice A' gs.length c') (((w.alloc (.cells #[.int .i64 share, .int .i64 room, .slice A er.length c, .slice A' gs.length c'] 36)).alloc (.cells #[.int .i64 op, .int .i64 xi, .int .i64 xr, .int .i64 xm, .int .i64 now, .int .i64 till] 32)).alloc (.cells #[.int .i64 0, .int .i64 0, .slice none 0 0, .slice none 0 0] 36)) := by
    refine ⟨?_, ?_, at_alloc (by simp)⟩
    · exact ((Below.refl _ _ |> fun h => bl_alloc (bl_alloc h _) _).block w.heap.size (by simp)).trans (at_alloc rfl)
    · exact (((bl_alloc (Below.refl _ _) _).block (w.heap.size + 1) (by simp))).trans (at_alloc (by simp))
  have hb3 : Below w.heap.size w (((w.alloc (.cells #[.int .i64 share, .int .i64 room, .slice A er.length c, .slice A' gs.length c'] 36)).alloc (.cells #[.int .i64 op, .int .i64 xi, .int .i64 xr, .int .i64 xm, .int .i64 now, .int .i64 till] 32)).alloc (.cells #[.int .i64 0, .int .i64 0, .slice none 0 0, .slice none 0 0] 36)) := bl_alloc (bl_alloc (bl_alloc (Below.refl _ _) _) _) _
  have HDX := Lib.hid hdx
  have HB3 := Lib.hid hb3
  clear hdx hb3
  go_enter Try.func12, Try.ntmps12
  go_upto_region 1 with fail
  generalize (((w.alloc (.cells #[.int .i64 share, .int .i64 room, .slice A er.length c, .slice A' gs.length c'] 36)).alloc (.cells #[.int .i64 op, .int .i64 xi, .int .i64 xr, .int .i64 xm, .int .i64 now, .int .i64 till] 32)).alloc (.cells #[.int .i64 0, .int .i64 0, .slice none 0 0, .slice none 0 0] 36)) = w3 at HDX HB3 ⊢
  obtain ⟨c40, c41, c42, c43, f40, f41, f42, f43⟩ := ref_cells' HDX.out.b4
  obtain ⟨c50, c51, c52, c53, c54, c55⟩ := HDX.out.c5
  have hsz := HDX.out.lt
  simp only at c50 c51 c52 c53 c54 c55
  have HF := Lib.hid (H.out.link.fine H.out.sane.fine)
  go_upto_block 0 with fail
  go_cut [8, 9] (fun s8 s9 wx => ∃ y : Int, s8 = .int .i64 y ∧ s9 = .int .i64 y ∧ Aside (∃ es' er' gs' ve' vl', DX w.heap.size ⟨op, ⟨xi, xr, xm⟩, now, till⟩ share room ve' vl' wx ∧ (FarS w3.heap.size ve' ∨ ve' = .slice A er.length c) ∧ (FarS w3.heap.size vl' ∨ vl' = .slice A' gs.length c') ∧ Both wx p r share room es' er' gs' ve' vl' (n + 1)) ∧ Aside (Mov p r w wx))
  case first =>
    by_cases h1 : op = 1
    · subst h1
      go_upto_region 4 with fail
      have HS : Hid (∀ W, Below w3.heap.size w3 W → (fun w' => w'.cell? ⟨w.heap.size, 0, none⟩ = some (.int .i64 share) ∧ w'.cell? ⟨w.heap.size, 1, none⟩ = some (.int .i64 room) ∧ w'.cell? ⟨w.heap.size, 2, none⟩ = some (.slice A er.length c) ∧ w'.cell? ⟨w.heap.size, 3, none⟩ = some (.slice A' gs.length c') ∧ w'.cell? ⟨w.heap.size + 1, 1, none⟩ = some (.int .i64 xi) ∧ w'.cell? ⟨w.heap.size + 1, 2, none⟩ = some (.int .i64 xr) ∧ w'.cell? ⟨w.heap.size + 1, 3, none⟩ = some (.int .i64 xm) ∧ w'.cell? ⟨w.heap.size + 1, 4, none⟩ = some (.int .i64 now)) W) := Lib.hid fun W hW => by
        obtain ⟨k0, k1, k2, k3, -⟩ := ref_cells' (HDX.out.below hW).b4
        obtain ⟨-, j1, j2, j3, j4, -⟩ := (HDX.out.below hW).c5
        exact ⟨k0, k1, k2, k3, j1, j2, j3, j4⟩
      have hfq := fits_eq H.out.link H.out.sane.fine share room ⟨xi, xr, xm⟩ now
      generalize hyy : fitsY share room er gs ⟨xi, xr, xm⟩ now = yy at hfq
      have HYY := Lib.hid hyy
      have HFQ := Lib.hid hfq
      clear hyy hfq
      go_region_held3 (fun w' => w'.cell? ⟨w.heap.size, 0, none⟩ = some (.int .i64 share) ∧ w'.cell? ⟨w.heap.size, 1, none⟩ = some (.int .i64 room) ∧ w'.cell? ⟨w.heap.size, 2, none⟩ = some (.slice A er.length c) ∧ w'.cell? ⟨w.heap.size, 3, none⟩ = some (.slice A' gs.length c') ∧ w'.cell? ⟨w.heap.size + 1, 1, none⟩ = some (.int .i64 xi) ∧ w'.cell? ⟨w.heap.size + 1, 2, none⟩ = some (.int .i64 xr) ∧ w'.cell? ⟨w.heap.size + 1, 3, none⟩ = some (.int .i64 xm) ∧ w'.cell? ⟨w.heap.size + 1, 4, none⟩ = some (.int .i64 now))
        (first
          | exact HS.out _ (by repeat (first | exact Below.refl _ _ | refine bl_drew ?_ | refine bl_drewN ?_ _ | (refine bl_then ?_ hb; clear hb) | (refine bl_then ?_ hb'; clear hb'))))
        (first
          | (go_at_call 28; refine (fits_ref share room _ _ er gs ⟨xi, xr, xm⟩ now _ (H.out.ref.below (bl_then HB3.out (by repeat (first | exact Below.refl _ _ | refine bl_drew ?_ | refine bl_drewN ?_ _ | (refine bl_then ?_ hb; clear hb) | (refine bl_then ?_ hb'; clear hb'))))) HF.out).mono ?_; rintro e w' ⟨rfl, hb⟩; rw [HYY.out])
          | (go_at_call 16; refine (fits_led p r share room es gs ⟨xi, xr, xm⟩ now _ (H.out.led.below (bl_then HB3.out (by repeat (first | exact Below.refl _ _ | refine bl_drew ?_ | refine bl_drewN ?_ _ | (refine bl_then ?_ hb; clear hb) | (refine bl_then ?_ hb'; clear hb'))))) H.out.sane.fine).mono ?_; rintro e w' ⟨rfl, hb'⟩; rw [HFQ.out]))
      all_goals (go_wp2_with fail; go_meet)
      all_goals case rel =>
        refine ⟨_, rfl, rfl, ⟨es, er, gs, _, _, HDX.out.below ?ha, Or.inr rfl, Or.inr rfl, (H.out.below (bl_then HB3.out ?ha)).more (by omega)⟩, Mov.ofBelow (bl_then HB3.out ?ha)⟩
        repeat (first | exact Below.refl _ _ | refine bl_drew ?_ | refine bl_drewN ?_ _ | (refine bl_then ?_ hb; clear hb) | (refine bl_then ?_ hb'; clear hb'))
    · have hb1 : (op == 1) = false := beq_eq_false_iff_ne.2 h1
      by_cases h2 : op = 2
      · subst h2
        have hcg := give_refS share room _ _ er gs ⟨xi, xr, xm⟩ now w3 (H.out.ref.below HB3.out) HF.out
        have hlk := link_give H.out.link H.out.sane share room ⟨xi, xr, xm⟩ now
        have hfq := fits_eq H.out.link H.out.sane.fine share room ⟨xi, xr, xm⟩ now
        generalize fitsY share room er gs ⟨xi, xr, xm⟩ now = yy at hcg hlk hfq
        generalize giveRL share room er gs ⟨xi, xr, xm⟩ now = er' at hcg hlk
        have HLK := Lib.hid hlk
        have HFQ := Lib.hid hfq
        clear hlk hfq
        go_wp2_with fail
        refine hcg.mono ?_
        rintro e w4 ⟨⟨ve', vl', rfl, hr4, hfe, hfl⟩, hb4⟩
        obtain ⟨A4, c4, rfl⟩ := hr4.e.slice
        obtain ⟨A5, c5, rfl⟩ := hr4.g.slice
        have hd4 := HDX.out.below hb4
        obtain ⟨k40, k41, k42, k43, g40, g41, g42, g43⟩ := ref_cells' hd4.b4
        obtain ⟨k50, k51, k52, k53, k54, k55⟩ := hd4.c5
        simp only at k50 k51 k52 k53 k54 k55
        have hs4 := hd4.lt
        have HD5 := Lib.hid (hd4.set (.slice A4 er'.length c4) (.slice A5 gs.length c5))
        have HB5 : Hid (Below w.heap.size w ((((w4.setCell ⟨w.heap.size, 0, none⟩ (.int .i64 share)).setCell ⟨w.heap.size, 1, none⟩ (.int .i64 room)).setCell ⟨w.heap.size, 2, none⟩ (.slice A4 er'.length c4)).setCell ⟨w.heap.size, 3, none⟩ (.slice A5 gs.length c5))) := Lib.hid (bl_set (bl_set (bl_set (bl_set (bl_then HB3.out hb4) (by simp) _) (by simp) _) (by simp) _) (by simp) _)
        have HR4 := Lib.hid hr4
        have HFE := Lib.hid hfe
        have HFL := Lib.hid hfl
        clear hb4 hd4 hr4 hfe hfl hcg c40 c41 c42 c43 f40 f41 f42 f43 c50 c51 c52 c53 c54 c55
        go_wp2_with fail
        refine (give_led p r share room es gs ⟨xi, xr, xm⟩ now _ (H.out.led.below HB5.out) H.out.sane.fine).mono ?_
        rintro e w6 ⟨rfl, hl6, hm6⟩
        rw [HFQ.out]
        rw [HFQ.out] at hl6
        go_wp2_with fail
        go_meet
        case rel =>
          exact ⟨yy, rfl, rfl, ⟨_, er', gs, _, _, HD5.out.mov hm6 hlt.1 hlt.2.1, HFE.out, HFL.out, both_step H.out (B := w3.heap.size) (by omega) HR4.out HFE.out HFL.out (fun q hq => set4_other (by omega)) (H.out.led.below HB5.out).map hm6 hl6 HLK.out.1 (HLK.out.2.more (by omega)) H.out.pos⟩, (Mov.ofBelow HB5.out).trans hm6⟩

      · have hb2 : (op == 2) = false := beq_eq_false_iff_ne.2 h2
        by_cases h3 : op = 3
        · subst h3
          have hcg := change_refS share room _ _ er gs ⟨xi, xr, xm⟩ now till w3 (H.out.ref.below HB3.out) HF.out H.out.link.nodup
          have hlk := link_change H.out.link H.out.sane (by omega) share room ⟨xi, xr, xm⟩ now till
          have hfq := change_eq H.out.link H.out.sane.fine share room ⟨xi, xr, xm⟩ now till
          generalize changeRY share room er gs ⟨xi, xr, xm⟩ now till = yy at hcg hlk hfq
          generalize (if yy = 0 then insE ⟨xi, xr, xm⟩ (delE er xi) else er) = er' at hcg hlk
          generalize hgs : (if yy = 0 then lingG gs ((oldE er xi).r - xr) till else gs) = gs' at hcg hlk
          generalize hes : (if yy = 0 then putE es ⟨xi, xr, xm⟩ else es) = es' at hlk
          have HGS := Lib.hid hgs
          have HES := Lib.hid hes
          have HLK := Lib.hid hlk
          have HFQ := Lib.hid hfq
          clear hlk hfq hgs hes
          go_wp2_with fail
          refine hcg.mono ?_
          rintro e w4 ⟨⟨ve', vl', rfl, hr4, hfe, hfl⟩, hb4⟩
          obtain ⟨A4, c4, rfl⟩ := hr4.e.slice
          obtain ⟨A5, c5, rfl⟩ := hr4.g.slice
          have hd4 := HDX.out.below hb4
          obtain ⟨k40, k41, k42, k43, g40, g41, g42, g43⟩ := ref_cells' hd4.b4
          obtain ⟨k50, k51, k52, k53, k54, k55⟩ := hd4.c5
          simp only at k50 k51 k52 k53 k54 k55
          have hs4 := hd4.lt
          have HD5 := Lib.hid (hd4.set (.slice A4 er'.length c4) (.slice A5 gs'.length c5))
          have HB5 : Hid (Below w.heap.size w ((((w4.setCell ⟨w.heap.size, 0, none⟩ (.int .i64 share)).setCell ⟨w.heap.size, 1, none⟩ (.int .i64 room)).setCell ⟨w.heap.size, 2, none⟩ (.slice A4 er'.length c4)).setCell ⟨w.heap.size, 3, none⟩ (.slice A5 gs'.length c5))) := Lib.hid (bl_set (bl_set (bl_set (bl_set (bl_then HB3.out hb4) (by simp) _) (by simp) _) (by simp) _) (by simp) _)
          have HR4 := Lib.hid hr4
          have HFE := Lib.hid hfe
          have HFL := Lib.hid hfl
          clear hb4 hd4 hr4 hfe hfl hcg c40 c41 c42 c43 f40 f41 f42 f43 c50 c51 c52 c53 c54 c55
          go_wp2_with fail
          refine (change_led p r share room es gs ⟨xi, xr, xm⟩ now till _ (H.out.led.below HB5.out) H.out.sane.fine).mono ?_
          rintro e w6 ⟨rfl, hl6, hm6⟩
          rw [HFQ.out]
          rw [HFQ.out] at hl6
          have hl6 : LedgerAt w6 p r share room es' gs' := by
            rw [← HES.out, ← HGS.out, H.out.link.old]
            unfold changed at hl6
            by_cases hy : yy = 0
            · rw [if_pos hy] at hl6 ⊢
              rw [if_pos hy]
              exact hl6
            · rw [if_neg hy] at hl6 ⊢
              rw [if_neg hy]
              exact hl6
          go_wp2_with fail
          go_meet
          case rel =>
            exact ⟨yy, rfl, rfl, ⟨_, er', gs', _, _, HD5.out.mov hm6 hlt.1 hlt.2.1, HFE.out, HFL.out, both_step H.out (B := w3.heap.size) (by omega) HR4.out HFE.out HFL.out (fun q hq => set4_other (by omega)) (H.out.led.below HB5.out).map hm6 hl6 HLK.out.1 (HLK.out.2.more (by omega)) (by rw [← HGS.out]; split; exact pos_ling H.out.pos _ _; exact H.out.pos)⟩, (Mov.ofBelow HB5.out).trans hm6⟩

        · have hb3 : (op == 3) = false := beq_eq_false_iff_ne.2 h3
          by_cases h4 : op = 4
          · subst h4
            have hcg := free_refS share room _ _ er gs xi till w3 (H.out.ref.below HB3.out) HF.out H.out.link.nodup
            have hlk := link_free H.out.link H.out.sane (by omega) xi till
            have hfq := free_eq H.out.link xi till
            generalize freeRY er xi till = yy at hcg hlk hfq
            generalize (if yy = 0 then delE er xi else er) = er' at hcg hlk
            generalize hgs : (if yy = 0 then lingG gs (oldE er xi).r till else gs) = gs' at hcg hlk
            generalize hes : (if yy = 0 then delE es xi else es) = es' at hlk
            have HGS := Lib.hid hgs
            have HES := Lib.hid hes
            have HLK := Lib.hid hlk
            have HFQ := Lib.hid hfq
            clear hlk hfq hgs hes
            go_wp2_with fail
            refine hcg.mono ?_
            rintro e w4 ⟨⟨ve', vl', rfl, hr4, hfe, hfl⟩, hb4⟩
            obtain ⟨A4, c4, rfl⟩ := hr4.e.slice
            obtain ⟨A5, c5, rfl⟩ := hr4.g.slice
            have hd4 := HDX.out.below hb4
            obtain ⟨k40, k41, k42, k43, g40, g41, g42, g43⟩ := ref_cells' hd4.b4
            obtain ⟨k50, k51, k52, k53, k54, k55⟩ := hd4.c5
            simp only at k50 k51 k52 k53 k54 k55
            have hs4 := hd4.lt
            have HD5 := Lib.hid (hd4.set (.slice A4 er'.length c4) (.slice A5 gs'.length c5))
            have HB5 : Hid (Below w.heap.size w ((((w4.setCell ⟨w.heap.size, 0, none⟩ (.int .i64 share)).setCell ⟨w.heap.size, 1, none⟩ (.int .i64 room)).setCell ⟨w.heap.size, 2, none⟩ (.slice A4 er'.length c4)).setCell ⟨w.heap.size, 3, none⟩ (.slice A5 gs'.length c5))) := Lib.hid (bl_set (bl_set (bl_set (bl_set (bl_then HB3.out hb4) (by simp) _) (by simp) _) (by simp) _) (by simp) _)
            have HR4 := Lib.hid hr4
            have HFE := Lib.hid hfe
            have HFL := Lib.hid hfl
            clear hb4 hd4 hr4 hfe hfl hcg c40 c41 c42 c43 f40 f41 f42 f43 c50 c51 c52 c53 c54 c55
            go_wp2_with fail
            refine (free_led p r share room es gs xi till _ (H.out.led.below HB5.out) H.out.sane.fine).mono ?_
            rintro e w6 ⟨rfl, hl6, hm6⟩
            rw [HFQ.out]
            rw [HFQ.out] at hl6
            have hl6 : LedgerAt w6 p r share room es' gs' := by
              rw [← HES.out, ← HGS.out, H.out.link.old]
              by_cases hy : yy = 0
              · rw [if_pos hy] at hl6 ⊢
                rw [if_pos hy]
                exact hl6
              · rw [if_neg hy] at hl6 ⊢
                rw [if_neg hy]
                exact hl6
            go_wp2_with fail
            go_meet
            case rel =>
              exact ⟨yy, rfl, rfl, ⟨_, er', gs', _, _, HD5.out.mov hm6 hlt.1 hlt.2.1, HFE.out, HFL.out, both_step H.out (B := w3.heap.size) (by omega) HR4.out HFE.out HFL.out (fun q hq => set4_other (by omega)) (H.out.led.below HB5.out).map hm6 hl6 HLK.out.1 (HLK.out.2.more (by omega)) (by rw [← HGS.out]; split; exact pos_ling H.out.pos _ _; exact H.out.pos)⟩, (Mov.ofBelow HB5.out).trans hm6⟩

          · have hb4 : (op == 4) = false := beq_eq_false_iff_ne.2 h4
            go_wp2_with fail
            go_meet
            case rel => exact ⟨0, rfl, rfl, ⟨es, er, gs, _, _, HDX.out, Or.inr rfl, Or.inr rfl, (H.out.below HB3.out).more (by omega)⟩, Mov.ofBelow HB3.out⟩
  case rest =>
    obtain ⟨y, rfl, rfl, HD, HM⟩ := hcut
    obtain ⟨es', er', gs', ve', vl', hd, hfe, hfl, hbo⟩ := HD.out
    obtain ⟨A4, c4, rfl⟩ := hbo.ref.e.slice
    obtain ⟨A5, c5, rfl⟩ := hbo.ref.g.slice
    obtain ⟨k40, k41, k42, k43, g40, g41, g42, g43⟩ := ref_cells' hd.b4
    obtain ⟨k60, k61, k62, k63, g60, g61, g62, g63⟩ := ref_cells' hd.b6
    have hs := hd.lt
    have HBO := Lib.hid hbo
    have HFE := Lib.hid hfe
    have HFL := Lib.hid hfl
    clear hfe hfl
    have HB6 := Lib.hid hd.b6
    clear c40 c41 c42 c43 f40 f41 f42 f43 c50 c51 c52 c53 c54 c55 hbo hd HD
    go_wp2_with fail
    have S4 := set4 (a0 := .int .i64 share) (a1 := .int .i64 room) (a2 := .slice A4 er'.length c4) (a3 := .slice A5 gs'.length c5) HB6.out
    have s0 := S4 0 _ rfl
    have s1 := S4 1 _ rfl
    have s2 := S4 2 _ rfl
    have s3 := S4 3 _ rfl
    have hlw := HBO.out.led.lt
    have hz3 := HB3.out.size
    have hmv : Mov p r w ((((wc.setCell ⟨w.heap.size + 2, 0, none⟩ (.int .i64 share)).setCell ⟨w.heap.size + 2, 1, none⟩ (.int .i64 room)).setCell ⟨w.heap.size + 2, 2, none⟩ (.slice A4 er'.length c4)).setCell ⟨w.heap.size + 2, 3, none⟩ (.slice A5 gs'.length c5)) :=
      ⟨HM.out.os, HM.out.tape, HM.out.output, by simpa [World.setCell] using HM.out.size, fun k hk h1 h2 => (set4_other (by omega)).trans (HM.out.block k hk h1 h2), fun h1 h2 v hv => HM.out.c3 h1 h2 v ((World.cell?_of_block (w := wc) (a := ⟨p, 3, none⟩) (set4_other (by show p ≠ _; omega))).symm.trans hv)⟩
    have hfin : LedgerAt ((((wc.setCell ⟨w.heap.size + 2, 0, none⟩ (.int .i64 share)).setCell ⟨w.heap.size + 2, 1, none⟩ (.int .i64 room)).setCell ⟨w.heap.size + 2, 2, none⟩ (.slice A4 er'.length c4)).setCell ⟨w.heap.size + 2, 3, none⟩ (.slice A5 gs'.length c5)) p r share room es' gs' := by
      obtain ⟨v, h1, h2, h3⟩ := HBO.out.led
      refine ⟨v, (set4_other (by omega)).trans h1, ?_, h3.step (set4_other (by omega))⟩
      exact ling_zero h2 HBO.out.pos HB6.out
    have hbo' := both_step H.out (B := w3.heap.size) (by omega) HBO.out.ref HFE.out HFL.out (w5 := ((((wc.setCell ⟨w.heap.size + 2, 0, none⟩ (.int .i64 share)).setCell ⟨w.heap.size + 2, 1, none⟩ (.int .i64 room)).setCell ⟨w.heap.size + 2, 2, none⟩ (.slice A4 er'.length c4)).setCell ⟨w.heap.size + 2, 3, none⟩ (.slice A5 gs'.length c5))) (fun q hq => set4_other (by omega)) hfin.map (Mov.refl p r _) hfin HBO.out.link HBO.out.sane HBO.out.pos
    exact bodyPost_ret (v := .tuple #[refV share room (.slice A4 er'.length c4) (.slice A5 gs'.length c5), .bool true]) (by simp [results, Try.results12, go_sem, s0, s1, s2, s3]) rfl ⟨⟨es', er', gs', _, _, rfl, hbo', HFE.out.imp (fun h => h.mono hz3) id, HFL.out.imp (fun h => h.mono hz3) id⟩, hmv⟩
end Go.Proofs.Ytfnijjjfodpnnaa
