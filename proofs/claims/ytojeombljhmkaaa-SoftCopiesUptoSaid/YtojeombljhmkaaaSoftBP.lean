/- Soft: Copy. -/
import Derived.Test.YtojeombljhmkaaaSoftBO
namespace Go.Proofs.Ytojeombljhmkaaa
open Go.RowKit Go.Shelf Go.Sort
set_option linter.unusedVariables false
set_option linter.unusedSimpArgs false
attribute [local go_sem] Oper.semAt_some
/-- A range over a function whose variable lies in a box that is told to be new. -/
theorem range_boxF {α : Type} {Q : Exit → Act → World → Prop} {P : Program} {g : Operand} {p q : Tmp} {assign body : Code} {a : Act} {w : World} {n : Nat} (el : TypeId)
    (h1 : 1 ≤ n) {gf : Nat} {lb : Array Value} (hg : a.eval g = .func (.func gf) #[] lb) (eg : ∀ args w, (callFunc gf args).run P w = .ok (.enter gf args) w)
    {enc : α → List Value} {Kp : World → World → Prop} {S Sp : List α → Prop} {N : Nat} (hseq : SeqStopsK Fence.wide (n - 1) P gf lb (fun x => #[.agg (enc x).toArray]) Kp S Sp N w)
    (hKt : ∀ {A B C : World}, Kp A B → Kp B C → Kp A C) (hKb : ∀ (W : World) (l : Nat) (o o' : Obj), w.heap.size ≤ l → W.heap[l]? = some o → o.isCells = false → o.isWalk = false → Kp W (W.putObj l o')) (hKa : ∀ (A : World) o, Kp A (A.alloc o))
    (I : List α → World → Prop) (hI : OwnFrom w.heap.size I) (h0 : I [] w) (Ix : Code → List α → World → Prop) (hIx : ∀ c, OwnFrom w.heap.size (Ix c))
    (Fr : Nat → World → Prop) (hFr : ∀ B, OwnFrom w.heap.size (fun (_ : Unit) W => Fr B W)) (hF : ∀ pre W o, I pre W → Fr W.heap.size (W.alloc o))
    (hassign : ∀ (l : Nat) (x : α) (W : World) (K : Act → World → Prop), K { tmps := (a.tmps.setIfInBounds p (.agg (enc x).toArray)).setIfInBounds q (.pointer (some ⟨W.heap.size, 0, none⟩)), defers := [] } (W.alloc (.cells (enc x).toArray el)) →
      assign.wpIn (Fence.wide.inRound l) (n - 1 - 1) P (Exit.then K (fun _ _ _ => False)) { tmps := a.tmps.setIfInBounds p (.agg (enc x).toArray), defers := [] } W)
    (hbody : ∀ (l : Nat) (pre : List α) (x : α) (Bx : Nat) (W : World), (∃ r, W.heap[l]? = some (.loop r)) → w.heap.size ≤ Bx → W.heap[Bx]? = some (.cells (enc x).toArray el (0, 0)) → Fr Bx W → I pre W → pre.length < N →
      body.wpIn (Fence.wide.inRound l) (n - 1 - 1) P (ownPostG w.heap.size Kp I Ix (pre ++ [x]) W) { tmps := (a.tmps.setIfInBounds p (.agg (enc x).toArray)).setIfInBounds q (.pointer (some ⟨Bx, 0, none⟩)), defers := [] } W)
    (hsz : ∀ pre W, I pre W → w.heap.size ≤ W.heap.size)
    (hdone : ∀ (D : Nat) (xs : List α) (W : World), w.heap.size ≤ D → S xs → I xs W → W.heap[D]? = some (.deferred (some [])) → Q .normal { a with defers := { target := .collected D, args := #[] } :: a.defers } W)
    (hstop : ∀ (D : Nat) (c : Code) (pre : List α) (W : World), w.heap.size ≤ D → Sp pre → Ix c pre W → W.heap[D]? = some (.deferred (some [])) → c.wpIn Fence.wide n P Q { a with defers := { target := .collected D, args := #[] } :: a.defers } W) :
    (Code.rangeFunc g #[p] assign body).wpIn Fence.wide n P Q a w := by
  refine wpIn_rangeFunc_ownH rfl h1 hg trivial eg hseq hKt hKb (Below.refl _ _) (fun _ => rfl) I Ix hI hIx h0
    (fun x a' W => ∃ Bx, w.heap.size ≤ Bx ∧ W.heap[Bx]? = some (.cells (enc x).toArray el (0, 0)) ∧ Fr Bx W ∧ a' = { tmps := (a.tmps.setIfInBounds p (.agg (enc x).toArray)).setIfInBounds q (.pointer (some ⟨Bx, 0, none⟩)), defers := [] }) ?_ ?_ ?_ hdone hstop
  · rintro x a' s X Y row ⟨Bx, hlt, hb, hf, ha⟩ hg hr
    exact ⟨Bx, hlt, (hg.block Bx (Array.getElem?_eq_some_iff.1 hb).1 (fun e => by obtain ⟨-, o, ho, hc⟩ := hr Bx e.symm; rw [hb] at ho; cases ho; cases hc)).trans hb, hFr Bx s X Y row hf hg hr, ha⟩
  · intro l pre x W K hi hK
    have h := hassign l x W K (hK _ _ ((KeepsOthers.alloc _ _).from _) (hKa _ _) (hI.alloc _ hi) ⟨W.heap.size, hsz _ _ hi, World.alloc_heap_new W _, hF _ _ _ hi, rfl⟩)
    have he : ∀ (u : Value) (t : Array Value), (#[p].zip #[u]).foldl (fun t (x : Tmp × Value) => t.setIfInBounds x.1 x.2) t = t.setIfInBounds p u := fun u t => by simp
    rw [he]
    exact h
  · rintro l pre x a' W hl hr hi ⟨Bx, h1, h2, h3, rfl⟩ hlt
    exact hbody l pre x Bx W hr h1 h2 h3 hi hlt
theorem mapOf_one {w : World} {r : Nat} {l1 l2 : List (ByteArray × Value)} (h1 : MapOf encS w r l1) (h2 : MapOf encS w r l2) : l1 = l2 := by
  obtain ⟨es, c, hb, hl, -⟩ := h1
  obtain ⟨es2, c2, hb2, hl2, -⟩ := h2
  rw [hb] at hb2
  obtain ⟨rfl, rfl⟩ : es = es2 ∧ c = c2 := by simpa using hb2
  rw [hl] at hl2
  refine (List.map_inj_right fun a b hab => ?_).1 hl2
  obtain ⟨h3, h4⟩ := Prod.mk.inj hab
  exact Prod.ext (by simpa [encS] using h3) h4
theorem mapOf_lt {w : World} {r : Nat} {l : List (ByteArray × Value)} (h : MapOf encS w r l) : r < w.heap.size := by
  obtain ⟨es, c, hb, -⟩ := h
  exact (Array.getElem?_eq_some_iff.1 hb).1
def ptrs (es : List (Nat × Th)) : List (ByteArray × Value) := es.map fun e => (e.2.name, Value.pointer (some ⟨e.1, 0, none⟩))
/-- What Copy has so far. -/
def CopyM (r2 N : Nat) (pre : List Th) (W : World) : Prop :=
  ∃ M, MapOf encS W r2 M ∧ (∀ kv ∈ M, ∃ b, kv.2 = .pointer (some ⟨b, 0, none⟩) ∧ b < W.heap.size) ∧ ((pre.map (·.name)).Nodup → ∃ es : List (Nat × Th), es.map (·.2) = pre ∧ M = ptrs es ∧ (∀ e ∈ es, W.heap[e.1]? = some (.cells (Th.cells e.2).toArray 35 (0, 0)) ∧ N ≤ e.1) ∧ (es.map (·.1)).Nodup)
def CopyF (r2 : Nat) (B : Nat) (W : World) : Prop := ∃ M, MapOf encS W r2 M ∧ ∀ kv ∈ M, kv.2 ≠ .pointer (some ⟨B, 0, none⟩)
theorem grown_keep {B : Nat} {W W' : World} {row : Option Nat} (hg : W.grownBy W' row) (hr : ∀ r, row = some r → B ≤ r ∧ ∃ o : Obj, W.heap[r]? = some o ∧ o.isCells = false) {i : Nat} {o : Obj} (hi : W.heap[i]? = some o) (hc : i < B ∨ o.isCells = true) : W'.heap[i]? = some o :=
  (hg.block i (Array.getElem?_eq_some_iff.1 hi).1 (fun e => by
    obtain ⟨h1, o', h2, h3⟩ := hr i e.symm
    rcases hc with h | h
    · omega
    · rw [hi] at h2; cases h2; rw [h] at h3; cases h3)).trans hi
theorem MapOf.grown {B : Nat} {W W' : World} {row : Option Nat} {r : Nat} {l : List (ByteArray × Value)} (h : MapOf encS W r l) (hg : W.grownBy W' row) (hr : ∀ r, row = some r → B ≤ r ∧ ∃ o : Obj, W.heap[r]? = some o ∧ o.isCells = false) (hB : r < B) : MapOf encS W' r l := by
  obtain ⟨es, c, hb, rest⟩ := h
  exact ⟨es, c, grown_keep hg hr hb (.inl hB), rest⟩
theorem copyM_own {r2 N : Nat} (h : r2 < N) : OwnFrom N (CopyM r2 N) := by
  rintro pre W W' row ⟨M, hM, hb, hn⟩ hg hr
  refine ⟨M, hM.grown hg hr h, fun kv hkv => let ⟨b, h1, h2⟩ := hb kv hkv; ⟨b, h1, Nat.lt_of_lt_of_le h2 hg.size⟩, fun hnd => ?_⟩
  obtain ⟨es, h1, h2, h3, h4⟩ := hn hnd
  exact ⟨es, h1, h2, fun e he => ⟨grown_keep hg hr (h3 e he).1 (.inr rfl), (h3 e he).2⟩, h4⟩
theorem copyF_own {r2 N B : Nat} (h : r2 < N) : OwnFrom N (fun (_ : Unit) W => CopyF r2 B W) := by
  rintro _ W W' row ⟨M, hM, hb⟩ hg hr
  exact ⟨M, hM.grown hg hr h, hb⟩
theorem copyF_new {r2 N : Nat} {pre : List Th} {W : World} (o : Obj) (h : CopyM r2 N pre W) : CopyF r2 W.heap.size (W.alloc o) := by
  obtain ⟨M, hM, hb, -⟩ := h
  refine ⟨M, hM.below (bl_alloc (Below.refl _ _) o), fun kv hkv e => ?_⟩
  obtain ⟨b, h1, h2⟩ := hb kv hkv
  rw [h1] at e
  cases e
  omega
/-- A round. -/
theorem copyM_next {r2 N Bx : Nat} {pre : List Th} {x : Th} {W W' : World} (h : CopyM r2 N pre W) (hf : CopyF r2 Bx W) (hbx : W.heap[Bx]? = some (.cells (Th.cells x).toArray 35 (0, 0))) (hN : N ≤ Bx) (hr : r2 < N)
    (hW : ∀ M, MapOf encS W r2 M → MapOf encS W' r2 (mput M x.name (.pointer (some ⟨Bx, 0, none⟩)))) (hg : W.grownBy W' (some r2)) : CopyM r2 N (pre ++ [x]) W' := by
  obtain ⟨M, hM, hb, hn⟩ := h
  obtain ⟨M2, hM2, hfr⟩ := hf
  obtain rfl := mapOf_one hM hM2
  have hlt := (Array.getElem?_eq_some_iff.1 hbx).1
  refine ⟨_, hW M hM, fun kv hkv => ?_, fun hnd => ?_⟩
  · unfold mput at hkv
    split at hkv
    · obtain ⟨q, hq, rfl⟩ := List.mem_map.1 hkv
      split
      · exact ⟨Bx, rfl, Nat.lt_of_lt_of_le hlt hg.size⟩
      · obtain ⟨b, h1, h2⟩ := hb q hq
        exact ⟨b, h1, Nat.lt_of_lt_of_le h2 hg.size⟩
    · rcases List.mem_append.1 hkv with hkv | hkv
      · obtain ⟨b, h1, h2⟩ := hb kv hkv
        exact ⟨b, h1, Nat.lt_of_lt_of_le h2 hg.size⟩
      · rw [List.mem_singleton.1 hkv]
        exact ⟨Bx, rfl, Nat.lt_of_lt_of_le hlt hg.size⟩
  · rw [List.map_append, List.nodup_append] at hnd
    obtain ⟨es, h1, h2, h3, h4⟩ := hn hnd.1
    have hnone : mget M x.name = none := by
      unfold mget
      rw [h2]
      have : (ptrs es).find? (fun p => decide (p.1 = x.name)) = none := by
        rw [List.find?_eq_none]
        intro p hp
        obtain ⟨e, he, rfl⟩ := List.mem_map.1 hp
        have := hnd.2.2 e.2.name (List.mem_map.2 ⟨e.2, by rw [← h1]; exact List.mem_map.2 ⟨e, he, rfl⟩, rfl⟩) x.name (by simp)
        simpa using this
      rw [this]
      rfl
    refine ⟨es ++ [(Bx, x)], by simp [h1], ?_, fun e he => ?_, ?_⟩
    · unfold mput
      rw [hnone, h2]
      simp [ptrs]
    · rcases List.mem_append.1 he with he | he
      · obtain ⟨q1, q2⟩ := h3 e he
        exact ⟨(hg.block e.1 (Array.getElem?_eq_some_iff.1 q1).1 (fun h => by have h9 : e.1 = r2 := (by simpa using h); omega)).trans q1, q2⟩
      · rw [List.mem_singleton.1 he]
        exact ⟨(hg.block Bx hlt (fun h => by have h9 : Bx = r2 := (by simpa using h); omega)).trans hbx, hN⟩
    · rw [List.map_append, List.nodup_append]
      refine ⟨h4, by simp, fun a ha b hb' => ?_⟩
      obtain ⟨e, he, rfl⟩ := List.mem_map.1 ha
      simp at hb'
      subst hb'
      intro hE
      have := hfr (e.2.name, .pointer (some ⟨e.1, 0, none⟩)) (by rw [h2]; exact List.mem_map.2 ⟨e, he, rfl⟩)
      exact this (by simp [hE])
theorem movS_put {W : World} {D : Nat} (o : Obj) : MovS (· = D) W (W.putObj D o) := ⟨rfl, rfl, rfl, by simp [World.putObj], fun i hi hn => World.putObj_heap_other hn⟩
set_option maxRecDepth 100000 in
set_option maxHeartbeats 2000000 in
theorem copy_all (p r : Nat) (now : Int) (L : List Th) (es : List (Nat × Th)) (w : World) (h : Tb w p r now L es) :
    Calls Try.prog 22 #[.pointer (some ⟨p, 0, none⟩)] w fun e w' => ∃ p2 r2 es2, e = .returned (.pointer (some ⟨p2, 0, none⟩)) ∧ (∀ i, TSet p2 r2 es2 i → w.heap.size ≤ i) ∧ Tb w' p2 r2 now L es2 ∧ Below w.heap.size w w' := by
  have H := Lib.hid h
  obtain ⟨a0, a1⟩ := h.tab.cells
  have HN := Lib.hid (none_no p r w a1)
  clear h
  refine callsIn_wide (n := 8) |>.1 ?_
  refine callsIn_of_wp_marks Try.func22 rfl trivial ?_ rfl
  simp only [Try.ntmps22, List.size_toArray, List.length_cons, List.length_nil, Nat.reduceAdd, Nat.reduceSub, Array.replicate_succ, Array.replicate_zero, List.push_toArray, List.append_toArray, List.nil_append, List.cons_append]
  refine wpIn_wide.2 ?_
  go_upto_region 4 with (first | (go_at_call 30; refine HN.out.mono ?_; rintro e w' ⟨rfl, rfl⟩) | (go_at_call 10; refine (new_any w).mono ?_; rintro e w1 ⟨rfl, ht1, hb1⟩))
  have hba := bl_alloc (Below.refl w1.heap.size w1) (.cells #[.pointer (some ⟨w.heap.size + 1, 0, none⟩)] 23)
  have ht2 := ht1.below hba
  have hb2 := bl_then hb1 hba
  have hx2 : (w1.alloc (.cells #[.pointer (some ⟨w.heap.size + 1, 0, none⟩)] 23)).heap[w1.heap.size]? = some (.cells #[.pointer (some ⟨w.heap.size + 1, 0, none⟩)] 23 (0, 0)) := at_alloc rfl
  have hlt1 : w.heap.size + 1 < w1.heap.size := ht1.lt _ (.inl rfl)
  have hz2 : w1.heap.size < (w1.alloc (.cells #[.pointer (some ⟨w.heap.size + 1, 0, none⟩)] 23)).heap.size := by simp
  generalize (w1.alloc (.cells #[.pointer (some ⟨w.heap.size + 1, 0, none⟩)] 23)) = w2 at ht2 hb2 hx2 hz2 ⊢
  obtain ⟨b3, hb3⟩ : ∃ b3, b3 = w1.heap.size := ⟨_, rfl⟩
  rw [← hb3] at hx2 hz2 hlt1 ⊢
  have hbox : Boxed w2 b3 23 (.pointer (some ⟨w.heap.size + 1, 0, none⟩)) := hx2
  obtain ⟨e0, e1⟩ := ht2.cells
  have c0 := bl_cell hb2 a0
  have x0 := hbox.cell
  have f0 : w2.frozen? ⟨w.heap.size + 1, 0, none⟩ = false := (cells2 ht2.own).2.2.1
  have HT2 := Lib.hid ht2
  have HB2 := Lib.hid hb2
  have HBX2 := Lib.hid hbox
  clear ht1 ht2 hb1 hb2 hba hb3 hx2 hbox a0 a1
  go_still_tail 7, (by kernel_rfl)
  change wpList _ _ _ _ _ w2.drew
  have hb4 : Below w.heap.size w (w2.drew.setCell ⟨w.heap.size + 1, 0, none⟩ (.int .i64 now)) := bl_set (bl_drew HB2.out) (by show w.heap.size ≤ w.heap.size + 1; omega) _
  have ht4 : TAt (w2.drew.setCell ⟨w.heap.size + 1, 0, none⟩ (.int .i64 now)) (w.heap.size + 1) w.heap.size now [] := HT2.out.drew.at ((heap_set HT2.out.own).trans rfl) fun i hi hn => heap_set_other hn
  have hx4 : Boxed (w2.drew.setCell ⟨w.heap.size + 1, 0, none⟩ (.int .i64 now)) b3 23 (.pointer (some ⟨w.heap.size + 1, 0, none⟩)) := (heap_set_other (by show b3 ≠ w.heap.size + 1; omega)).trans HBX2.out
  have HTT := Lib.hid (ht4.ne_pr)
  have HT4 := Lib.hid ht4
  have HB4 := Lib.hid hb4
  have HX4 := Lib.hid hx4
  have hz4 : b3 < (w2.drew.setCell ⟨w.heap.size + 1, 0, none⟩ (.int .i64 now)).heap.size := (Array.getElem?_eq_some_iff.1 hx4).1
  have HAL := Lib.hid (allf_any p r now es L _ (H.out.below hb4).tab H.out.isL (by have := H.out.len; have := H.out.few; omega))
  clear ht4 hb4 hx4 HT2 HB2 HBX2
  go_wp2_with (go_at_call 23; refine HAL.out.mono ?_; rintro e w5 ⟨bs, u, rfl, hA⟩)
  have hb5 := bl_then HB4.out hA.2.2.2
  have ht5 := HT4.out.below hA.2.2.2
  have hx5 : Boxed w5 b3 23 (.pointer (some ⟨w.heap.size + 1, 0, none⟩)) := (hA.2.2.2.block b3 hz4).trans HX4.out
  have hz5 : b3 < w5.heap.size := Nat.lt_of_lt_of_le hz4 hA.2.2.2.size
  have hst := all_stops 7 (by omega) w.heap.size w5.heap.size bs u L w5 (Nat.le_refl _) hA.2.1 (fun X hX => own_sat (own_keepX hA.2.2.1 hX (by show w.heap.size < _; omega) (Nat.le_refl _)))
  clear hA HAL HT4 HB4 HX4 hz4 HTT
  have hrN : w.heap.size < w5.heap.size := by omega
  have HT5 := Lib.hid ht5
  refine (wpIn_wide (n := 8)).1 ?_
  refine range_boxF (p := 17) (q := 4) 35 (by omega) rfl en_allit hst (fun h k => h.trans k) (KeepX.put (by omega)) (KeepX.alloc _ _)
    (fun pre W => (CopyM w.heap.size w5.heap.size pre W ∧ KeepX w.heap.size w5.heap.size w5 W ∧ Below w.heap.size w W) ∧ w5.heap.size ≤ W.heap.size) ?hI ?h0 (fun _ _ _ => False) (fun _ _ _ _ _ h _ _ => h) (CopyF w.heap.size) (fun B => copyF_own hrN) (fun pre W o h => copyF_new o h.1.1) ?hassign ?hbody ?hsz ?hdone (fun _ _ _ _ _ _ h _ => h.elim)
  case hI => exact OwnFrom.and (OwnFrom.and (copyM_own hrN) (OwnFrom.and (ownFrom_keepX (by omega)) (ownFrom_below (n₀ := w.heap.size) (Nat.le_refl _) (by omega)))) (ownFrom_size _ _)
  case h0 => exact ⟨⟨⟨[], ht5.map, by simp, fun _ => ⟨[], rfl, rfl, by simp, by simp⟩⟩, KeepX.refl _ _ _, hb5⟩, Nat.le_refl _⟩
  case hsz => rintro pre W ⟨-, hB⟩; exact hB
  case hassign =>
    intro l x W K hK
    simp only [Th.cells] at hK ⊢
    gi_wp2
    exact hK
  case hbody =>
    rintro l pre x Bx W ⟨r, hr⟩ hBx hbx hfr ⟨⟨hM, hKX, hB⟩, hZ⟩ hlt
    obtain ⟨M, hM1, -⟩ := id hM
    have hcx : W.cell? ⟨Bx, 0, none⟩ = some (.string x.name) := (cell_blk hbx).trans rfl
    have hbo : W.cell? ⟨b3, 0, none⟩ = some (.pointer (some ⟨w.heap.size + 1, 0, none⟩)) := hKX.cell hz5 (by omega) hx5.cell
    have hmp : W.cell? ⟨w.heap.size + 1, 1, none⟩ = some (.map (some w.heap.size)) := hKX.cell (by omega) (by omega) HT5.out.cells.2
    simp only [List.setIfInBounds_toArray, List.set_cons_zero, List.set_cons_succ, Th.cells]
    have HSX : Hid (∀ X, Below W.heap.size W X → (fun W' : World => W'.cell? ⟨b3, 0, none⟩ = some (.pointer (some ⟨w.heap.size + 1, 0, none⟩)) ∧ W'.cell? ⟨w.heap.size + 1, 1, none⟩ = some (.map (some w.heap.size)) ∧ W'.cell? ⟨Bx, 0, none⟩ = some (.string x.name)) X) := Lib.hid fun X hX => ⟨bl_cell hX hbo, bl_cell hX hmp, bl_cell hX hcx⟩
    clear hcx hbo hmp
    refine wpIn_block ?_
    refine wpIn_region_till 6 (S := (fun W' : World => W'.cell? ⟨b3, 0, none⟩ = some (.pointer (some ⟨w.heap.size + 1, 0, none⟩)) ∧ W'.cell? ⟨w.heap.size + 1, 1, none⟩ = some (.map (some w.heap.size)) ∧ W'.cell? ⟨Bx, 0, none⟩ = some (.string x.name))) (by kernel_rfl) (noDefer (by kernel_rfl)) (HSX.out _ (bl_drew (Below.refl _ _))) (fun hHeld => ?_)
    refine till_yes (i := 0) (v := ?_) rfl (by kernel_rfl) (by kernel_rfl) (by kernel_rfl) (by kernel_rfl) (by kernel_rfl) (fun _ _ _ h => h) (by kernel_rfl) (by assumption) ?_ ?_
    rotate_left 1
    · (intro w hSw; (try dsimp only at hSw); go_simp; try with_reducible rfl)
    try simp only [Act.put, List.setIfInBounds_toArray, List.set_cons_zero, List.set_cons_succ]

    refine till_yes (i := 1) (v := ?_) rfl (by kernel_rfl) (by kernel_rfl) (by kernel_rfl) (by kernel_rfl) (by kernel_rfl) (fun _ _ _ h => h) (by kernel_rfl) (by assumption) ?_ ?_
    rotate_left 1
    · (intro w hSw; (try dsimp only at hSw); go_simp; try with_reducible rfl)
    try simp only [Act.put, List.setIfInBounds_toArray, List.set_cons_zero, List.set_cons_succ]

    refine till_yes (i := 2) (v := ?_) rfl (by kernel_rfl) (by kernel_rfl) (by kernel_rfl) (by kernel_rfl) (by kernel_rfl) (fun _ _ _ h => h) (by kernel_rfl) (by assumption) ?_ ?_
    rotate_left 1
    · (intro w hSw; (try dsimp only at hSw); go_simp; try with_reducible rfl)
    try simp only [Act.put, List.setIfInBounds_toArray, List.set_cons_zero, List.set_cons_succ]

    refine till_yes (i := 3) (v := ?_) rfl (by kernel_rfl) (by kernel_rfl) (by kernel_rfl) (by kernel_rfl) (by kernel_rfl) (fun _ _ _ h => h) (by kernel_rfl) (by assumption) ?_ ?_
    rotate_left 1
    · (intro w hSw; (try dsimp only at hSw); go_simp; try with_reducible rfl)
    try simp only [Act.put, List.setIfInBounds_toArray, List.set_cons_zero, List.set_cons_succ]

    refine till_yes (i := 4) (v := ?_) rfl (by kernel_rfl) (by kernel_rfl) (by kernel_rfl) (by kernel_rfl) (by kernel_rfl) (fun _ _ _ h => h) (by kernel_rfl) (by assumption) ?_ ?_
    rotate_left 1
    · (intro w hSw; (try dsimp only at hSw); go_simp; try with_reducible rfl)
    try simp only [Act.put, List.setIfInBounds_toArray, List.set_cons_zero, List.set_cons_succ]

    refine till_yes (i := 5) (v := ?_) rfl (by kernel_rfl) (by kernel_rfl) (by kernel_rfl) (by kernel_rfl) (by kernel_rfl) (fun _ _ _ h => h) (by kernel_rfl) (by assumption) ?_ ?_
    rotate_left 1
    · (intro w hSw; (try dsimp only at hSw); go_simp; try with_reducible rfl)
    try simp only [Act.put, List.setIfInBounds_toArray, List.set_cons_zero, List.set_cons_succ]

    refine till_late (i := 6) rfl (by decide) (by kernel_rfl) (fun K' hK => ?_)
    obtain ⟨w6, hrun, hm6, hg6, hz6⟩ := run_store klawS Try.underlying63 hM1.drew x.name (.pointer (some ⟨Bx, 0, none⟩))
    have hrun : (Instr.mapUpdate 63 (.map (some w.heap.size)) (.string x.name) (.pointer (some ⟨Bx, 0, none⟩))).run Try.prog W.drew = .ok () w6 := hrun
    go_simp
    refine hK.out _ _ ?_
    clear hK K'
    refine till_done (by kernel_rfl) ?_ _
    have hg : W.grownBy w6 (some w.heap.size) := ⟨hg6.os, hg6.tape, hg6.output, hg6.size, hg6.block⟩
    have hr2N : w.heap.size < w5.heap.size := hrN
    refine ⟨KeepsFrom.of_grownBy hg (fun j e => by cases e; exact hr2N), fun i o hi hp ho => (hg.block i (Array.getElem?_eq_some_iff.1 ho).1 (fun e => hp (by cases e; rfl))).trans ho, ⟨copyM_next hM hfr hbx hBx hrN (fun M2 h2 => by rw [← mapOf_one hM1 h2]; exact hm6) hg, hKX.trans (fun i o hi hp ho => (hg.block i (Array.getElem?_eq_some_iff.1 ho).1 (fun e => hp (by cases e; rfl))).trans ho), ?_⟩, by rw [hz6]; exact hZ⟩
    exact hB.grown hg hB.size (fun k e => by cases e; exact Nat.le_refl _)
  case hdone =>
    rintro D ys W hD rfl ⟨⟨hM, hKX, hB⟩, hZ⟩ hK
    have hbo : W.cell? ⟨b3, 0, none⟩ = some (.pointer (some ⟨w.heap.size + 1, 0, none⟩)) := hKX.cell hz5 (by omega) hx5.cell
    have hp2 : W.heap[w.heap.size + 1]? = some (.cells #[.int .i64 now, .map (some w.heap.size)] 65 (0, 0)) := hKX _ _ (by omega) (by omega) HT5.out.own
    obtain ⟨M, hM1, hM2, hM3⟩ := hM
    obtain ⟨es2, h1, h2, h3, h4⟩ := hM3 (by
      have := H.out.isL.2
      refine List.pairwise_map.2 (this.imp fun {a b} hab => ?_)
      rintro e
      rw [e] at hab
      simp [ltS_irrefl] at hab)
    have hta : TAt W (w.heap.size + 1) w.heap.size now es2 := ⟨hp2, by rw [h2] at hM1; exact hM1, fun e he => (h3 e he).1, h4⟩
    have HTA := Lib.hid (And.intro hta (And.intro h1 fun e he => (h3 e he).2))
    have HBB := Lib.hid hB
    have HKD := Lib.hid hK
    have hDs : D < W.heap.size := (Array.getElem?_eq_some_iff.1 HKD.out).1
    have hwD : w.heap.size ≤ D := by omega
    clear hM1 hM2 hM3 h1 h2 h3 h4 hta hp2 hB hK hKX hst hx5
    go_wp2_with fail
    refine ⟨by simp, .inl ⟨_, _, rfl, run_takeDeferred HKD.out, ?_⟩⟩
    refine ⟨_, results_tmp rfl _ _ _, w.heap.size + 1, w.heap.size, es2, rfl, ?_, ?_, ?_⟩
    · rintro i (rfl | rfl | hi)
      · omega
      · omega
      · obtain ⟨e, he, rfl⟩ := List.mem_map.1 hi
        have := HTA.out.2.2 e he
        omega
    · refine ⟨HTA.out.1.mov (movS_put _) ?_, ⟨by rw [HTA.out.2.1], H.out.isL.2⟩, H.out.good, H.out.few, H.out.lo, H.out.hi⟩
      rintro i (rfl | rfl | hi) hD'
      · have h9 := HTA.out.1.own
        rw [hD', HKD.out] at h9
        cases h9
      · have h9 := mapOf_lt HTA.out.1.map
        obtain ⟨es9, c9, hb9, -⟩ := HTA.out.1.map
        rw [hD', HKD.out] at hb9
        cases hb9
      · obtain ⟨e, he, rfl⟩ := List.mem_map.1 hi
        have h9 := HTA.out.1.each e he
        rw [hD', HKD.out] at h9
        cases h9
    · exact HBB.out.trans (belowK_b (w := w) (Nat.le_refl _) _ D _ _ hwD HKD.out rfl rfl)
end Go.Proofs.Ytojeombljhmkaaa
