/- Texts put together: SoftBL, SoftBM, SoftBN. -/
import Derived.Test.YtojeombljhmkaaaSoftMA
import Derived.Test.YtojeombljhmkaaaSoftAI
/- Soft: a table beside the document's (plain words). -/
namespace Go.Proofs.Ytojeombljhmkaaa
open Go.RowKit Go.Shelf Go.Sort
set_option linter.unusedVariables false
set_option linter.unusedSimpArgs false
theorem row_mov {α : Type} {enc : α → List Value} {k : Nat} {S : Nat → Prop} {w W : World} {b o : Nat} {xs : List α} (h : RowAt enc k w b o xs) (hm : MovS S w W) (hb : ¬ S b) : RowAt enc k W b o xs :=
  fun j x hj i u hi => hm.cell (h j x hj i u hi) hb
theorem sat_mov {α : Type} {enc : α → List Value} {k : Nat} {S : Nat → Prop} {w W : World} {v : Value} {xs : List α} (h : SAt enc k w v xs) (hm : MovS S w W) (hv : ∀ j, v.ownBlock = some j → ¬ S j) : SAt enc k W v xs := by
  rcases h with h | ⟨b, o, c, h1, h2, h3, h4⟩
  · exact .inl h
  · exact .inr ⟨b, o, c, h1, h2, h3, row_mov h4 hm (hv b (by rw [h1]; rfl))⟩
theorem own_ge {w : World} {base e k n : Nat} {v : Value} {cs : List Value} (h : w.ownsRow base e k v n cs) {j : Nat} (hj : v.ownBlock = some j) : base ≤ j ∧ j < w.heap.size := by
  rcases h.2 with ⟨h2, -⟩ | ⟨g, cap, cur, h1, h2, h3, h4⟩
  · rw [h2] at hj; exact absurd hj (by simp [Value.ownBlock])
  · rw [h1] at hj
    obtain rfl : g = j := Option.some.inj hj
    exact ⟨h2, (Array.getElem?_eq_some_iff.1 h3).1⟩
/-- A table, and the document's. -/
structure Two (w : World) (p r : Nat) (now : Int) (L : List Th) (es : List (Nat × Th)) (v : Value) : Prop where
  tb : Tb w p r now L es
  sl : SAt Th.cells 4 w v L
  far : ∀ j, v.ownBlock = some j → ¬ TSet p r es j ∧ j < w.heap.size
theorem Two.below {w W : World} {p r : Nat} {now : Int} {L : List Th} {es : List (Nat × Th)} {v : Value} (h : Two w p r now L es v) (hb : Below w.heap.size w W) : Two W p r now L es v :=
  ⟨h.tb.below hb, h.sl.below hb, fun j hj => ⟨(h.far j hj).1, Nat.lt_of_lt_of_le (h.far j hj).2 hb.size⟩⟩
/-- What moves blocks that are of neither leaves both. -/
theorem Two.mov {S : Nat → Prop} {w W : World} {p r : Nat} {now : Int} {L : List Th} {es : List (Nat × Th)} {v : Value} (h : Two w p r now L es v) (hm : MovS S w W) (hS : ∀ i, TSet p r es i → ¬ S i) (hv : ∀ j, v.ownBlock = some j → ¬ S j) : Two W p r now L es v :=
  ⟨h.tb.mov hm hS, sat_mov h.sl hm hv, fun j hj => ⟨(h.far j hj).1, Nat.lt_of_lt_of_le (h.far j hj).2 hm.size⟩⟩
theorem grew_set {w : World} {p r : Nat} {es es' : List (Nat × Th)} (hg : Grew w es es') {i : Nat} (hi : TSet p r es' i) : TSet p r es i ∨ w.heap.size ≤ i := by
  rcases hi with h | h | h
  · exact .inl (.inl h)
  · exact .inl (.inr (.inl h))
  · obtain ⟨e, he, rfl⟩ := List.mem_map.1 h
    rcases hg e he with h2 | h2
    · exact .inl (.inr (.inr h2))
    · exact .inr h2
theorem Grew.from {w w1 : World} {es es' : List (Nat × Th)} (hg : Grew w1 es es') (hs : w.heap.size ≤ w1.heap.size) : Grew w es es' := fun e he => (hg e he).imp (fun h => h) fun h => Nat.le_trans hs h
/-- What became of both, of a world w: blocks of their own from B on. -/
structure Stp (w : World) (B p r : Nat) (es : List (Nat × Th)) (v : Value) (W : World) (now' : Int) (L' : List Th) (es' : List (Nat × Th)) (u : Value) : Prop where
  two : Two W p r now' L' es' u
  grew : ∀ i, TSet p r es' i → TSet p r es i ∨ B ≤ i
  fresh : ∀ j, u.ownBlock = some j → v.ownBlock = some j ∨ B ≤ j
  mov : MovS (TSet p r es) w W
theorem Stp.below {w W W' : World} {B p r : Nat} {es es' : List (Nat × Th)} {v u : Value} {now' : Int} {L' : List Th} (h : Stp w B p r es v W now' L' es' u) (hb : Below W.heap.size W W') : Stp w B p r es v W' now' L' es' u :=
  ⟨h.two.below hb, h.grew, h.fresh, h.mov.then hb⟩
theorem Stp.from {w W : World} {B B' p r : Nat} {es es' : List (Nat × Th)} {v u : Value} {now' : Int} {L' : List Th} (h : Stp w B p r es v W now' L' es' u) (hb : B' ≤ B) : Stp w B' p r es v W now' L' es' u :=
  ⟨h.two, fun i hi => (h.grew i hi).imp (fun h => h) fun h => Nat.le_trans hb h, fun i hi => (h.fresh i hi).imp (fun h => h) fun h => Nat.le_trans hb h, h.mov⟩
theorem Stp.set {w W : World} {B p r : Nat} {es es' : List (Nat × Th)} {v u : Value} {now now' : Int} {L L' : List Th} (h : Stp w B p r es v W now' L' es' u) (h0 : Two w p r now L es v) {q : Addr} (h1 : w.heap.size ≤ q.block) (h2 : q.block < B) (x : Value) :
    Stp w B p r es v (W.setCell q x) now' L' es' u :=
  ⟨h.two.mov ((MovS.refl (· = q.block) W).set (.inr rfl)) (fun i hi he => by
      subst he
      rcases h.grew _ hi with h3 | h3
      · have := h0.tb.tab.lt _ h3; omega
      · omega) (fun j hj he => by
      subst he
      rcases h.fresh _ hj with h3 | h3
      · have := (h0.far _ h3).2; omega
      · omega), h.grew, h.fresh, h.mov.set (.inl h1)⟩
/-- The program's own first, then the document's. -/
theorem Two.step {w w0 w1 w2 : World} {p r : Nat} {now now' : Int} {L L' : List Th} {es : List (Nat × Th)} {v u : Value} (h : Two w p r now L es v) (h0 : Below w.heap.size w w0) (hd : Did p r es w0 now' L' w1)
    (hr : RefIs w1.heap.size v L w2 u L') (hb : Below w1.heap.size w1 w2) : ∃ es', Stp w w0.heap.size p r es v w2 now' L' es' u := by
  obtain ⟨es', ht, hg, hm⟩ := hd
  have hlt := h.tb.tab.lt
  refine ⟨es', ⟨ht.below hb, hr.sat (sat_mov (h.sl.below h0) hm fun j hj => (h.far j hj).1) hb, fun j hj => ?_⟩, fun i hi => grew_set hg hi, fun j hj => ?_, ((MovS.ofBelow h0 : MovS (TSet p r es) w w0).trans hm fun i _ hi => hi).then hb⟩
  · have := hm.size
    have := hb.size
    have := h0.size
    rcases hr with ⟨rfl, -⟩ | ho
    · have := (h.far j hj).2
      exact ⟨fun hs => (grew_set hg hs).elim (h.far j hj).1 (fun hs => by omega), by omega⟩
    · obtain ⟨h1, h2⟩ := own_ge ho hj
      exact ⟨fun hs => by have := ht.tab.lt j hs; omega, h2⟩
  · have := hm.size
    rcases hr with ⟨rfl, -⟩ | ho
    · exact .inl hj
    · exact .inr (by have := (own_ge ho hj).1; omega)
/-- The document's first, then the program's own. -/
theorem Two.step2 {w w1 w2 : World} {B p r : Nat} {now now' : Int} {L L' : List Th} {es : List (Nat × Th)} {v u : Value} (h : Two w p r now L es v) (hwB : w.heap.size ≤ B)
    (hr : RefIs B v L w1 u L') (hb : Below w.heap.size w w1) (hB : B ≤ w1.heap.size) (hd : Did p r es w1 now' L' w2) : ∃ es', Stp w B p r es v w2 now' L' es' u := by
  obtain ⟨es', ht, hg, hm⟩ := hd
  have hlt := h.tb.tab.lt
  have hbs := hb.size
  have hf : ∀ j, u.ownBlock = some j → ¬ TSet p r es j ∧ j < w1.heap.size := by
    intro j hj
    rcases hr with ⟨rfl, -⟩ | ho
    · exact ⟨(h.far j hj).1, by have := (h.far j hj).2; omega⟩
    · obtain ⟨h1, h2⟩ := own_ge ho hj
      exact ⟨fun hs => by have := hlt j hs; omega, h2⟩
  refine ⟨es', ⟨ht, sat_mov (hr.sat h.sl hb) hm fun j hj => (hf j hj).1, fun j hj => ?_⟩, fun i hi => (grew_set hg hi).imp (fun h => h) fun h => Nat.le_trans hB h, fun j hj => ?_, (MovS.ofBelow hb : MovS (TSet p r es) w w1).trans hm fun i _ hi => hi⟩
  · obtain ⟨h1, h2⟩ := hf j hj
    exact ⟨fun hs => (grew_set hg hs).elim h1 (fun hs => by omega), Nat.lt_of_lt_of_le h2 hm.size⟩
  · rcases hr with ⟨rfl, -⟩ | ho
    · exact .inl hj
    · exact .inr (own_ge ho hj).1
theorem Two.still {w W : World} {p r : Nat} {now : Int} {L : List Th} {es : List (Nat × Th)} {v : Value} (h : Two w p r now L es v) (hb : Below w.heap.size w W) : Stp w W.heap.size p r es v W now L es v :=
  ⟨h.below hb, fun i hi => .inl hi, fun i hi => .inl hi, .ofBelow hb⟩
/-- The form of what the document's answers with. -/
theorem RefIs.form {B : Nat} {v u : Value} {L M : List Th} {w W : World} (h : RefIs B v L W u M) (hv : SAt Th.cells 4 w v L) : ∃ A n c, u = .slice A n c := by
  rcases h with ⟨rfl, -⟩ | ho
  · obtain ⟨A, c, rfl⟩ := hv.slice
    exact ⟨_, _, _, rfl⟩
  · obtain ⟨A, c, rfl⟩ := own_form ho
    exact ⟨_, _, _, rfl⟩
/-- The boxes of does: the document's table, the call, the table that it answers with. -/
structure Dox (w W : World) (now : Int) (v : Value) (x : Ac) (now2 : Int) (v2 : Value) : Prop where
  b0 : W.heap[w.heap.size]? = some (.cells #[.int .i64 now, v] 47 (0, 0))
  b1 : W.heap[w.heap.size + 1]? = some (.cells #[.int .i64 x.kind, .string x.name, .int .i64 x.n] 51 (0, 0))
  b2 : W.heap[w.heap.size + 2]? = some (.cells #[.int .i64 now2, v2] 47 (0, 0))
theorem Dox.size {w W : World} {now now2 : Int} {v v2 : Value} {x : Ac} (h : Dox w W now v x now2 v2) : w.heap.size + 3 ≤ W.heap.size := (Array.getElem?_eq_some_iff.1 h.b2).1
theorem Dox.mov {S : Nat → Prop} {w W W' : World} {now now2 : Int} {v v2 : Value} {x : Ac} (h : Dox w W now v x now2 v2) (hm : MovS S W W') (hS : ∀ i, S i → i < w.heap.size) : Dox w W' now v x now2 v2 := by
  have hs := h.size
  exact ⟨(hm.block _ (by omega) fun h => by have := hS _ h; omega).trans h.b0, (hm.block _ (by omega) fun h => by have := hS _ h; omega).trans h.b1, (hm.block _ (by omega) fun h => by have := hS _ h; omega).trans h.b2⟩
theorem Dox.below {w W W' : World} {now now2 : Int} {v v2 : Value} {x : Ac} (h : Dox w W now v x now2 v2) (hb : Below W.heap.size W W') : Dox w W' now v x now2 v2 :=
  h.mov (MovS.ofBelow hb : MovS (fun _ => False) W W') fun i hi => hi.elim
theorem Dox.store {w W : World} {now now2 : Int} {v v2 : Value} {x : Ac} (h : Dox w W now v x now2 v2) (n : Int) (u : Value) : Dox w ((W.setCell ⟨w.heap.size, 0, none⟩ (.int .i64 n)).setCell ⟨w.heap.size, 1, none⟩ u) n u x now2 v2 := by
  have ho : ∀ (i : Nat), i ≠ w.heap.size → ((W.setCell ⟨w.heap.size, 0, none⟩ (.int .i64 n)).setCell ⟨w.heap.size, 1, none⟩ u).heap[i]? = W.heap[i]? := fun i hi => (heap_set_other hi).trans (heap_set_other hi)
  exact ⟨(heap_set (heap_set h.b0)).trans rfl, (ho _ (by omega)).trans h.b1, (ho _ (by omega)).trans h.b2⟩
theorem cells3 {w1 : World} {b : Nat} {v0 v1 v2 : Value} {t : TypeId} (h : w1.heap[b]? = some (.cells #[v0, v1, v2] t (0, 0))) :
    w1.cell? ⟨b, 0, none⟩ = some v0 ∧ w1.cell? ⟨b, 1, none⟩ = some v1 ∧ w1.cell? ⟨b, 2, none⟩ = some v2 := ⟨(cell_blk h).trans rfl, (cell_blk h).trans rfl, (cell_blk h).trans rfl⟩
theorem dox_new (w : World) (now : Int) (v : Value) (x : Ac) : ∃ wz, wz = ((w.alloc (.cells #[.int .i64 now, v] 47)).alloc (.cells #[.int .i64 x.kind, .string x.name, .int .i64 x.n] 51)).alloc (.cells #[.int .i64 0, .slice none 0 0] 47) ∧ Dox w wz now v x 0 (.slice none 0 0) ∧ Below w.heap.size w wz := by
  refine ⟨_, rfl, ⟨?_, ?_, at_alloc (by simp)⟩, bl_alloc (bl_alloc (bl_alloc (Below.refl _ _) _) _) _⟩
  · exact ((bl_alloc (bl_alloc (Below.refl _ _) _) _).block w.heap.size (by simp)).trans (at_alloc rfl)
  · exact ((bl_alloc (Below.refl _ _) _).block (w.heap.size + 1) (by simp)).trans (at_alloc (by simp))
/-- What a call does. -/
def doL (now : Int) (L : List Th) (x : Ac) : Int × List Th :=
  if x.kind = 1 then (now, (keepL now L x.name x.n).1)
  else if x.kind = 2 then (now, (hearL now L x.name).1)
  else if x.kind = 3 then (now, (dropL L x.name).1)
  else if x.kind = 4 then (if x.n < now ∨ 2147483647 < x.n then (now, L) else (x.n, goTo x.n L))
  else (now, L)
theorem withL_names {L : List Th} {x : Th} (h : ∀ y ∈ L, namedB y.name = true) (hx : namedB x.name = true) : ∀ y ∈ withL L x, namedB y.name = true := fun y hy => by
  rcases withL_mem.1 hy with rfl | ⟨h1, -⟩
  · exact hx
  · exact h y h1
theorem findL_mem {L : List Th} {s : ByteArray} {x : Th} (h : findL L s = some x) : x ∈ L ∧ x.name = s := ⟨List.mem_of_find?_eq_some h, by simpa using List.find?_some h⟩
/-- All names are names. -/
theorem doL_names {now : Int} {L : List Th} (x : Ac) (h : ∀ y ∈ L, namedB y.name = true) : ∀ y ∈ (doL now L x).2, namedB y.name = true := by
  unfold doL
  split
  · unfold keepL
    split
    · next hn =>
      cases hf : findL L x.name with
      | none => 
        dsimp only
        split
        · exact h
        · exact withL_names h hn.1
      | some z => exact withL_names h (by rw [(findL_mem hf).2]; exact hn.1)
    · exact h
  · split
    · unfold hearL
      split
      · next hn =>
        cases hf : findL L x.name with
        | none => exact h
        | some z => exact withL_names h (by rw [(findL_mem hf).2]; exact hn)
      · exact h
    · split
      · unfold dropL
        split
        · cases hf : findL L x.name with
          | none => exact h
          | some z => exact fun y hy => h y (List.mem_filter.1 hy).1
        · exact h
      · split
        · split
          · exact h
          · intro y hy
            obtain ⟨z, hz, rfl⟩ := List.mem_map.1 hy
            rw [saidT_name]
            exact h z (List.mem_filter.1 hz).1
        · exact h
theorem getL_find {L : List Th} {s : ByteArray} (h : ∀ y ∈ L, namedB y.name = true) : getL L s = (match findL L s with | none => (⟨ByteArray.empty, 0, 0, 0⟩, false) | some x => (x, true)) := by
  unfold getL
  split
  · rfl
  · next hn =>
    cases hf : findL L s with
    | none => rfl
    | some z => exact absurd (by have := h z (findL_mem hf).1; rw [(findL_mem hf).2] at this; exact this) hn
end Go.Proofs.Ytojeombljhmkaaa
/- Soft: does (a call beside the document's). -/
namespace Go.Proofs.Ytojeombljhmkaaa
open Go.RowKit Go.Shelf Go.Sort
set_option linter.unusedVariables false
set_option linter.unusedSimpArgs false
attribute [local go_sem] Oper.semAt_some
theorem Dox.reads {w W : World} {now now2 : Int} {v v2 : Value} {x : Ac} (h : Dox w W now v x now2 v2) :
    (W.cell? ⟨w.heap.size, 0, none⟩ = some (.int .i64 now) ∧ W.cell? ⟨w.heap.size, 1, none⟩ = some v ∧ W.frozen? ⟨w.heap.size, 0, none⟩ = false ∧ W.frozen? ⟨w.heap.size, 1, none⟩ = false) ∧
    (W.cell? ⟨w.heap.size + 1, 0, none⟩ = some (.int .i64 x.kind) ∧ W.cell? ⟨w.heap.size + 1, 1, none⟩ = some (.string x.name) ∧ W.cell? ⟨w.heap.size + 1, 2, none⟩ = some (.int .i64 x.n)) ∧
    (W.cell? ⟨w.heap.size + 2, 0, none⟩ = some (.int .i64 now2) ∧ W.cell? ⟨w.heap.size + 2, 1, none⟩ = some v2 ∧ W.frozen? ⟨w.heap.size + 2, 0, none⟩ = false ∧ W.frozen? ⟨w.heap.size + 2, 1, none⟩ = false) := ⟨cells2 h.b0, cells3 h.b1, cells2 h.b2⟩
set_option maxRecDepth 100000 in
set_option maxHeartbeats 1000000 in
theorem does_1 (p r : Nat) (now : Int) (L : List Th) (es : List (Nat × Th)) (v : Value) (s : ByteArray) (n : Int) (w : World) (h : Two w p r now L es v) :
    Calls Try.prog 18 #[.pointer (some ⟨p, 0, none⟩), .agg #[.int .i64 now, v], .agg #[.int .i64 1, .string s, .int .i64 n]] w fun e w' => ∃ u es', e = .returned (.tuple #[.agg #[.int .i64 now, u], .bool true]) ∧ Stp w w.heap.size p r es v w' now (keepL now L s n).1 es' u := by
  obtain ⟨A, c, rfl⟩ := h.sl.slice
  obtain ⟨F1, hF1⟩ : ∃ F, F = (keepL now L s n).1 := ⟨_, rfl⟩
  obtain ⟨F2, hF2⟩ : ∃ F, F = (keepL now L s n).2.1 := ⟨_, rfl⟩
  obtain ⟨F3, hF3⟩ : ∃ F, F = (keepL now L s n).2.2 := ⟨_, rfl⟩
  rw [← hF1]
  obtain ⟨Q, hQ⟩ : ∃ Q : Ending → World → Prop, Q = fun e w' => ∃ u es', e = .returned (.tuple #[.agg #[.int .i64 now, u], .bool true]) ∧ Stp w w.heap.size p r es (.slice A L.length c) w' now F1 es' u := ⟨_, rfl⟩
  rw [← hQ]
  have HQ := Lib.hid hQ
  obtain ⟨wz, hwz, hbx, hbz⟩ := dox_new w now (.slice A L.length c) ⟨1, s, n⟩
  have hkp := keep_all p r now L es s n wz (h.tb.below hbz)
  rw [← hF1, ← hF2, ← hF3] at hkp
  have HKP := Lib.hid hkp
  have HRK : Hid (∀ W, SAt Th.cells 4 W (.slice A L.length c) L → Calls Try.prog 40 #[.agg #[.int .i64 now, .slice A L.length c], .string s, .int .i64 n] W fun e w' => ∃ u, e = .returned (.tuple #[.agg #[.int .i64 now, u], .bool F2, .int .i64 F3]) ∧ RefIs W.heap.size (.slice A L.length c) L w' u F1 ∧ Below W.heap.size W w') := Lib.hid fun W hW => by
    have h1 := rkeep_any now _ L s n W hW (by have := h.tb.few; omega) h.tb.lo h.tb.hi
    rw [← hF1, ← hF2, ← hF3] at h1
    exact h1
  have H := Lib.hid h
  have HBX := Lib.hid hbx
  have HBZ := Lib.hid hbz
  have HWZ := Lib.hid hwz
  have HLT := Lib.hid h.tb.tab.lt
  have he2 : (F2 == F2) = true := by simp
  have he3 : (F3 == F3) = true := by simp
  obtain ⟨⟨x0, x1, -, -⟩, ⟨y0, y1, y2⟩, -⟩ := hbx.reads
  clear hQ h hbx hbz hkp hF1 hF2 hF3
  have hwz' := hwz
  clear hwz
  go_enter Try.func18, Try.ntmps18
  go_upto_region 4 with fail
  dsimp only at hwz'
  rw [← hwz']
  clear hwz'
  go_upto_region 5 with (go_at_call 11; refine HKP.out.mono ?_; rintro e w4 ⟨rfl, hd⟩; have HD := Lib.hid hd; obtain ⟨es4, -, -, hm4⟩ := hd; have hbx4 := HBX.out.mov hm4 HLT.out; obtain ⟨⟨x0, x1, -, -⟩, ⟨y0, y1, y2⟩, -⟩ := hbx4.reads; have HBX4 := Lib.hid hbx4; have HS4 := Lib.hid (sat_mov (H.out.sl.below HBZ.out) hm4 fun j hj => (H.out.far j hj).1); clear hbx4 hm4)
  go_upto_region 6 with (go_at_call 40; refine (HRK.out _ HS4.out).mono ?_; rintro e w5 ⟨u, rfl, hr, hb⟩; obtain ⟨A5, n5, c5, rfl⟩ := hr.form HS4.out; obtain ⟨es', hst⟩ := H.out.step HBZ.out HD.out hr hb; have HST := Lib.hid hst; have hbx5 := HBX4.out.below hb; have HBX5 := Lib.hid hbx5; obtain ⟨⟨x0, x1, -, -⟩, ⟨y0, y1, y2⟩, z0, z1, z2, z3⟩ := hbx5.reads; clear hbx5 hst hr hb)
  have hb6 := bl_alloc (Below.refl w5.heap.size w5) (.cells #[.int .i64 now, .slice A5 n5 c5] 47)
  have hk6 : (w5.alloc (.cells #[.int .i64 now, .slice A5 n5 c5] 47)).heap[w5.heap.size]? = some (.cells #[.int .i64 now, .slice A5 n5 c5] 47 (0, 0)) := at_alloc rfl
  have hbx6 := HBX5.out.below hb6
  have hst6 := HST.out.below hb6
  clear HST
  have HST := Lib.hid hst6
  generalize (w5.alloc (.cells #[.int .i64 now, .slice A5 n5 c5] 47)) = w6 at hbx6 hk6 HST ⊢
  clear x0 x1 y0 y1 y2 z0 z1 z2 z3 hst6 hb6
  obtain ⟨-, -, z0, z1, z2, z3⟩ := hbx6.reads
  obtain ⟨k0, k1, -, -⟩ := cells2 hk6
  have HBX6 := Lib.hid hbx6
  clear hbx6 hk6
  go_wp2_with fail
  obtain ⟨s0, s1⟩ := set2 HBX6.out.b2 (.int .i64 now) (.slice A5 n5 c5); refine bodyPost_ret (v := .tuple #[.agg #[.int .i64 now, .slice A5 n5 c5], .bool true]) (by simp [results, Try.results18, go_sem, s0, s1]) rfl ?_; rw [HQ.out]; exact ⟨_, es', rfl, ((HST.out.set H.out (q := ⟨w.heap.size + 2, 0, none⟩) (by show w.heap.size ≤ w.heap.size + 2; omega) (by have := HBX.out.size; show w.heap.size + 2 < wz.heap.size; omega) (.int .i64 now)).set H.out (q := ⟨w.heap.size + 2, 1, none⟩) (by show w.heap.size ≤ w.heap.size + 2; omega) (by have := HBX.out.size; show w.heap.size + 2 < wz.heap.size; omega) (.slice A5 n5 c5)).from HBZ.out.size⟩
set_option maxRecDepth 100000 in
set_option maxHeartbeats 1000000 in
theorem does_2 (p r : Nat) (now : Int) (L : List Th) (es : List (Nat × Th)) (v : Value) (s : ByteArray) (n : Int) (w : World) (h : Two w p r now L es v) :
    Calls Try.prog 18 #[.pointer (some ⟨p, 0, none⟩), .agg #[.int .i64 now, v], .agg #[.int .i64 2, .string s, .int .i64 n]] w fun e w' => ∃ u es', e = .returned (.tuple #[.agg #[.int .i64 now, u], .bool true]) ∧ Stp w w.heap.size p r es v w' now (hearL now L s).1 es' u := by
  obtain ⟨A, c, rfl⟩ := h.sl.slice
  obtain ⟨F1, hF1⟩ : ∃ F, F = (hearL now L s).1 := ⟨_, rfl⟩
  obtain ⟨F2, hF2⟩ : ∃ F, F = (hearL now L s).2 := ⟨_, rfl⟩
  rw [← hF1]
  obtain ⟨Q, hQ⟩ : ∃ Q : Ending → World → Prop, Q = fun e w' => ∃ u es', e = .returned (.tuple #[.agg #[.int .i64 now, u], .bool true]) ∧ Stp w w.heap.size p r es (.slice A L.length c) w' now F1 es' u := ⟨_, rfl⟩
  rw [← hQ]
  have HQ := Lib.hid hQ
  obtain ⟨wz, hwz, hbx, hbz⟩ := dox_new w now (.slice A L.length c) ⟨2, s, n⟩
  have hrk := rhear_any now _ L s wz (h.sl.below hbz) (by have := h.tb.few; omega) h.tb.lo h.tb.hi
  rw [← hF1, ← hF2] at hrk
  have HRK := Lib.hid hrk
  have HKP : Hid (∀ W, Tb W p r now L es → Calls Try.prog 16 #[.pointer (some ⟨p, 0, none⟩), .string s] W fun e w' => e = .returned (.int .i64 F2) ∧ Did p r es W now F1 w') := Lib.hid fun W hW => by
    have h1 := hear_all p r now L es s W hW
    rw [← hF1, ← hF2] at h1
    exact h1
  have H := Lib.hid h
  have HBX := Lib.hid hbx
  have HBZ := Lib.hid hbz
  have HWZ := Lib.hid hwz
  have HLT := Lib.hid h.tb.tab.lt
  have he2 : (F2 == F2) = true := by simp
  obtain ⟨⟨x0, x1, x2, x3⟩, ⟨y0, y1, y2⟩, -⟩ := hbx.reads
  clear hQ h hbx hbz hrk hF1 hF2
  have hwz' := hwz
  clear hwz
  go_enter Try.func18, Try.ntmps18
  go_upto_region 8 with fail
  dsimp only at hwz'
  rw [← hwz']
  clear hwz'
  go_upto_region 9 with (go_at_call 41; refine HRK.out.mono ?_; rintro e w4 ⟨u, rfl, hr, hb⟩; obtain ⟨A5, n5, c5, rfl⟩ := hr.form (H.out.sl.below HBZ.out); have hbx4 := HBX.out.below hb; obtain ⟨⟨x0, x1, x2, x3⟩, ⟨y0, y1, y2⟩, -⟩ := hbx4.reads; have HBX4 := Lib.hid hbx4; have HR := Lib.hid hr; have HB4 := Lib.hid hb; clear hbx4 hr hb)
  have hbx5 := HBX4.out.store now (.slice A5 n5 c5)
  have hr5 := (HR.out.set (q := ⟨w.heap.size, 0, none⟩) (by have := HBX.out.size; show w.heap.size < wz.heap.size; omega) (.int .i64 now)).set (q := ⟨w.heap.size, 1, none⟩) (by have := HBX.out.size; show w.heap.size < wz.heap.size; omega) (.slice A5 n5 c5)
  have hb5 : Below w.heap.size w ((w4.setCell ⟨w.heap.size, 0, none⟩ (.int .i64 now)).setCell ⟨w.heap.size, 1, none⟩ (.slice A5 n5 c5)) := bl_set (bl_set (bl_then HBZ.out HB4.out) (Nat.le_refl _) _) (Nat.le_refl _) _
  have hB5 : wz.heap.size ≤ ((w4.setCell ⟨w.heap.size, 0, none⟩ (.int .i64 now)).setCell ⟨w.heap.size, 1, none⟩ (.slice A5 n5 c5)).heap.size := by have := HB4.out.size; simpa [World.setCell] using this
  generalize ((w4.setCell ⟨w.heap.size, 0, none⟩ (.int .i64 now)).setCell ⟨w.heap.size, 1, none⟩ (.slice A5 n5 c5)) = w5 at hbx5 hr5 hb5 hB5 ⊢
  clear x0 x1 x2 x3 y0 y1 y2
  obtain ⟨⟨x0, x1, x2, x3⟩, ⟨y0, y1, y2⟩, -⟩ := hbx5.reads
  have HTB := Lib.hid (H.out.tb.below hb5)
  have HBX5 := Lib.hid hbx5
  have HR5 := Lib.hid hr5
  have HB5 := Lib.hid hb5
  have HBB := Lib.hid hB5
  clear hbx5 hr5 hb5 hB5
  go_upto_region 17 with (go_at_call 16; refine (HKP.out _ HTB.out).mono ?_; rintro e w6 ⟨rfl, hd⟩; have HWS : Hid (w.heap.size ≤ wz.heap.size) := Lib.hid HBZ.out.size; obtain ⟨es', hst⟩ := H.out.step2 HWS.out HR5.out HB5.out HBB.out hd; have HST := Lib.hid hst; obtain ⟨es6, -, -, hm6⟩ := hd; have hbx6 := HBX5.out.mov hm6 HLT.out; have HBX6 := Lib.hid hbx6; obtain ⟨⟨x0, x1, x2, x3⟩, ⟨y0, y1, y2⟩, z0, z1, z2, z3⟩ := hbx6.reads; clear hbx6 hst hm6)
  go_wp2_with fail
  obtain ⟨s0, s1⟩ := set2 HBX6.out.b2 (.int .i64 now) (.slice A5 n5 c5); refine bodyPost_ret (v := .tuple #[.agg #[.int .i64 now, .slice A5 n5 c5], .bool true]) (by simp [results, Try.results18, go_sem, s0, s1]) rfl ?_; rw [HQ.out]; exact ⟨_, es', rfl, ((HST.out.set H.out (q := ⟨w.heap.size + 2, 0, none⟩) (by show w.heap.size ≤ w.heap.size + 2; omega) (by have := HBX.out.size; show w.heap.size + 2 < wz.heap.size; omega) (.int .i64 now)).set H.out (q := ⟨w.heap.size + 2, 1, none⟩) (by show w.heap.size ≤ w.heap.size + 2; omega) (by have := HBX.out.size; show w.heap.size + 2 < wz.heap.size; omega) (.slice A5 n5 c5)).from HBZ.out.size⟩
set_option maxRecDepth 100000 in
set_option maxHeartbeats 1000000 in
theorem does_3 (p r : Nat) (now : Int) (L : List Th) (es : List (Nat × Th)) (v : Value) (s : ByteArray) (n : Int) (w : World) (h : Two w p r now L es v) :
    Calls Try.prog 18 #[.pointer (some ⟨p, 0, none⟩), .agg #[.int .i64 now, v], .agg #[.int .i64 3, .string s, .int .i64 n]] w fun e w' => ∃ u es', e = .returned (.tuple #[.agg #[.int .i64 now, u], .bool true]) ∧ Stp w w.heap.size p r es v w' now (dropL L s).1 es' u := by
  obtain ⟨A, c, rfl⟩ := h.sl.slice
  obtain ⟨F1, hF1⟩ : ∃ F, F = (dropL L s).1 := ⟨_, rfl⟩
  obtain ⟨F2, hF2⟩ : ∃ F, F = (dropL L s).2 := ⟨_, rfl⟩
  rw [← hF1]
  obtain ⟨Q, hQ⟩ : ∃ Q : Ending → World → Prop, Q = fun e w' => ∃ u es', e = .returned (.tuple #[.agg #[.int .i64 now, u], .bool true]) ∧ Stp w w.heap.size p r es (.slice A L.length c) w' now F1 es' u := ⟨_, rfl⟩
  rw [← hQ]
  have HQ := Lib.hid hQ
  obtain ⟨wz, hwz, hbx, hbz⟩ := dox_new w now (.slice A L.length c) ⟨3, s, n⟩
  have hrk := rdrop_any now _ L s wz (h.sl.below hbz) (by have := h.tb.few; omega)
  rw [← hF1, ← hF2] at hrk
  have HRK := Lib.hid hrk
  have HKP : Hid (∀ W, Tb W p r now L es → Calls Try.prog 26 #[.pointer (some ⟨p, 0, none⟩), .string s] W fun e w' => e = .returned (.int .i64 F2) ∧ Did p r es W now F1 w') := Lib.hid fun W hW => by
    have h1 := drop_all p r now L es s W hW
    rw [← hF1, ← hF2] at h1
    exact h1
  have H := Lib.hid h
  have HBX := Lib.hid hbx
  have HBZ := Lib.hid hbz
  have HWZ := Lib.hid hwz
  have HLT := Lib.hid h.tb.tab.lt
  have he2 : (F2 == F2) = true := by simp
  obtain ⟨⟨x0, x1, x2, x3⟩, ⟨y0, y1, y2⟩, -⟩ := hbx.reads
  clear hQ h hbx hbz hrk hF1 hF2
  have hwz' := hwz
  clear hwz
  go_enter Try.func18, Try.ntmps18
  go_upto_region 11 with fail
  dsimp only at hwz'
  rw [← hwz']
  clear hwz'
  go_upto_region 12 with (go_at_call 42; refine HRK.out.mono ?_; rintro e w4 ⟨u, rfl, hr, hb⟩; obtain ⟨A5, n5, c5, rfl⟩ := hr.form (H.out.sl.below HBZ.out); have hbx4 := HBX.out.below hb; obtain ⟨⟨x0, x1, x2, x3⟩, ⟨y0, y1, y2⟩, -⟩ := hbx4.reads; have HBX4 := Lib.hid hbx4; have HR := Lib.hid hr; have HB4 := Lib.hid hb; clear hbx4 hr hb)
  have hbx5 := HBX4.out.store now (.slice A5 n5 c5)
  have hr5 := (HR.out.set (q := ⟨w.heap.size, 0, none⟩) (by have := HBX.out.size; show w.heap.size < wz.heap.size; omega) (.int .i64 now)).set (q := ⟨w.heap.size, 1, none⟩) (by have := HBX.out.size; show w.heap.size < wz.heap.size; omega) (.slice A5 n5 c5)
  have hb5 : Below w.heap.size w ((w4.setCell ⟨w.heap.size, 0, none⟩ (.int .i64 now)).setCell ⟨w.heap.size, 1, none⟩ (.slice A5 n5 c5)) := bl_set (bl_set (bl_then HBZ.out HB4.out) (Nat.le_refl _) _) (Nat.le_refl _) _
  have hB5 : wz.heap.size ≤ ((w4.setCell ⟨w.heap.size, 0, none⟩ (.int .i64 now)).setCell ⟨w.heap.size, 1, none⟩ (.slice A5 n5 c5)).heap.size := by have := HB4.out.size; simpa [World.setCell] using this
  generalize ((w4.setCell ⟨w.heap.size, 0, none⟩ (.int .i64 now)).setCell ⟨w.heap.size, 1, none⟩ (.slice A5 n5 c5)) = w5 at hbx5 hr5 hb5 hB5 ⊢
  clear x0 x1 x2 x3 y0 y1 y2
  obtain ⟨⟨x0, x1, x2, x3⟩, ⟨y0, y1, y2⟩, -⟩ := hbx5.reads
  have HTB := Lib.hid (H.out.tb.below hb5)
  have HBX5 := Lib.hid hbx5
  have HR5 := Lib.hid hr5
  have HB5 := Lib.hid hb5
  have HBB := Lib.hid hB5
  clear hbx5 hr5 hb5 hB5
  go_upto_region 17 with (go_at_call 26; refine (HKP.out _ HTB.out).mono ?_; rintro e w6 ⟨rfl, hd⟩; have HWS : Hid (w.heap.size ≤ wz.heap.size) := Lib.hid HBZ.out.size; obtain ⟨es', hst⟩ := H.out.step2 HWS.out HR5.out HB5.out HBB.out hd; have HST := Lib.hid hst; obtain ⟨es6, -, -, hm6⟩ := hd; have hbx6 := HBX5.out.mov hm6 HLT.out; have HBX6 := Lib.hid hbx6; obtain ⟨⟨x0, x1, x2, x3⟩, ⟨y0, y1, y2⟩, z0, z1, z2, z3⟩ := hbx6.reads; clear hbx6 hst hm6)
  go_wp2_with fail
  obtain ⟨s0, s1⟩ := set2 HBX6.out.b2 (.int .i64 now) (.slice A5 n5 c5); refine bodyPost_ret (v := .tuple #[.agg #[.int .i64 now, .slice A5 n5 c5], .bool true]) (by simp [results, Try.results18, go_sem, s0, s1]) rfl ?_; rw [HQ.out]; exact ⟨_, es', rfl, ((HST.out.set H.out (q := ⟨w.heap.size + 2, 0, none⟩) (by show w.heap.size ≤ w.heap.size + 2; omega) (by have := HBX.out.size; show w.heap.size + 2 < wz.heap.size; omega) (.int .i64 now)).set H.out (q := ⟨w.heap.size + 2, 1, none⟩) (by show w.heap.size ≤ w.heap.size + 2; omega) (by have := HBX.out.size; show w.heap.size + 2 < wz.heap.size; omega) (.slice A5 n5 c5)).from HBZ.out.size⟩
end Go.Proofs.Ytojeombljhmkaaa
/- Soft: does, at Go; at any call. -/
namespace Go.Proofs.Ytojeombljhmkaaa
open Go.RowKit Go.Shelf Go.Sort
set_option linter.unusedVariables false
set_option linter.unusedSimpArgs false
attribute [local go_sem] Oper.semAt_some
def goR (now : Int) (L : List Th) (n : Int) : (Int × List Th) × List ByteArray × List ByteArray × Int :=
  if n < now ∨ 2147483647 < n then ((now, L), [], [], 2) else ((n, goTo n L), (goneL n L).map (·.name), (dueL n L).map (·.name), 0)
theorem sat_nil {α : Type} (enc : α → List Value) (k : Nat) (w : World) : SAt enc k w (.slice none 0 0) [] := .inl ⟨rfl, rfl⟩
theorem own_strs {w : World} {base : Nat} {v : Value} {α : Type} {L : List α} {f : α → ByteArray} (h : w.ownsRow base 9 1 v L.length ((L.map f).flatMap sCells)) : SAt sCells 1 w v (L.map f) :=
  SAt.ofOwn (fun _ => rfl) (by simp) h
theorem go_both (p r : Nat) (now : Int) (L : List Th) (es : List (Nat × Th)) (n : Int) (w : World) (h : Tb w p r now L es) :
    Calls Try.prog 13 #[.pointer (some ⟨p, 0, none⟩), .int .i64 n] w fun e w' => ∃ a b, e = .returned (.tuple #[a, b, .int .i64 (goR now L n).2.2.2]) ∧ SAt sCells 1 w' a (goR now L n).2.1 ∧ SAt sCells 1 w' b (goR now L n).2.2.1 ∧ Did p r es w (goR now L n).1.1 (goR now L n).1.2 w' := by
  by_cases hn : n < now ∨ 2147483647 < n
  · unfold goR
    rw [if_pos hn]
    refine (go_arg p r now es n w h.tab hn).mono ?_
    rintro e w' ⟨rfl, hb⟩
    exact ⟨_, _, rfl, sat_nil _ _ _, sat_nil _ _ _, es, h.below hb, Grew.refl w es, .ofBelow hb⟩
  · unfold goR
    rw [if_neg hn]
    refine (go_all 1000000 (Nat.le_refl _) stable_all p r now L es n w h (by have := h.few; omega) (by omega) (by omega)).mono ?_
    rintro e w' ⟨u, v, rfl, ho1, ho2, hd⟩
    exact ⟨u, v, rfl, own_strs ho1, own_strs ho2, hd.did h.tab⟩
theorem rgo_both (now : Int) (v : Value) (L : List Th) (n : Int) (w : World) (h : SAt Th.cells 4 w v L) (hL : ByName L) (hlen : L.length ≤ 100000) (hp : ∀ x ∈ L, 1 ≤ x.period ∧ x.period ≤ 1000000) (h0 : 0 ≤ now) :
    Calls Try.prog 43 #[.agg #[.int .i64 now, v], .int .i64 n] w fun e w' => ∃ u a b, e = .returned (.tuple #[.agg #[.int .i64 (goR now L n).1.1, u], a, b, .int .i64 (goR now L n).2.2.2]) ∧ RefIs w.heap.size v L w' u (goR now L n).1.2 ∧ SAt sCells 1 w' a (goR now L n).2.1 ∧ SAt sCells 1 w' b (goR now L n).2.2.1 ∧ Below w.heap.size w w' := by
  by_cases hn : n < now ∨ 2147483647 < n
  · unfold goR
    rw [if_pos hn]
    refine (rgo_no now v L n w h hn).mono ?_
    rintro e w' ⟨rfl, hb⟩
    exact ⟨v, _, _, rfl, .inl ⟨rfl, rfl⟩, sat_nil _ _ _, sat_nil _ _ _, hb⟩
  · unfold goR
    rw [if_neg hn]
    refine (rgo_any now v L n w h hL hlen hp h0 (by omega) (by omega)).mono ?_
    rintro e w' ⟨u, a, b, rfl, hr, ho1, ho2, hb⟩
    exact ⟨u, a, b, rfl, hr, own_strs ho1, own_strs ho2, hb⟩
set_option maxRecDepth 100000 in
set_option maxHeartbeats 1000000 in
theorem does_4 (p r : Nat) (now : Int) (L : List Th) (es : List (Nat × Th)) (v : Value) (s : ByteArray) (n : Int) (w : World) (h : Two w p r now L es v) :
    Calls Try.prog 18 #[.pointer (some ⟨p, 0, none⟩), .agg #[.int .i64 now, v], .agg #[.int .i64 4, .string s, .int .i64 n]] w fun e w' => ∃ u es', e = .returned (.tuple #[.agg #[.int .i64 (goR now L n).1.1, u], .bool true]) ∧ Stp w w.heap.size p r es v w' (goR now L n).1.1 (goR now L n).1.2 es' u := by
  obtain ⟨A, c, rfl⟩ := h.sl.slice
  obtain ⟨F0, hF0⟩ : ∃ F, F = (goR now L n).1.1 := ⟨_, rfl⟩
  obtain ⟨F1, hF1⟩ : ∃ F, F = (goR now L n).1.2 := ⟨_, rfl⟩
  obtain ⟨G1, hG1⟩ : ∃ F, F = (goR now L n).2.1 := ⟨_, rfl⟩
  obtain ⟨G2, hG2⟩ : ∃ F, F = (goR now L n).2.2.1 := ⟨_, rfl⟩
  obtain ⟨F3, hF3⟩ : ∃ F, F = (goR now L n).2.2.2 := ⟨_, rfl⟩
  rw [← hF0, ← hF1]
  obtain ⟨Q, hQ⟩ : ∃ Q : Ending → World → Prop, Q = fun e w' => ∃ u es', e = .returned (.tuple #[.agg #[.int .i64 F0, u], .bool true]) ∧ Stp w w.heap.size p r es (.slice A L.length c) w' F0 F1 es' u := ⟨_, rfl⟩
  rw [← hQ]
  have HQ := Lib.hid hQ
  obtain ⟨wz, hwz, hbx, hbz⟩ := dox_new w now (.slice A L.length c) ⟨4, s, n⟩
  have hkp := go_both p r now L es n wz (h.tb.below hbz)
  rw [← hF0, ← hF1, ← hG1, ← hG2, ← hF3] at hkp
  have HKP := Lib.hid hkp
  have HRK : Hid (∀ W, SAt Th.cells 4 W (.slice A L.length c) L → Calls Try.prog 43 #[.agg #[.int .i64 now, .slice A L.length c], .int .i64 n] W fun e w' => ∃ u a b, e = .returned (.tuple #[.agg #[.int .i64 F0, u], a, b, .int .i64 F3]) ∧ RefIs W.heap.size (.slice A L.length c) L w' u F1 ∧ SAt sCells 1 w' a G1 ∧ SAt sCells 1 w' b G2 ∧ Below W.heap.size W w') := Lib.hid fun W hW => by
    have h1 := rgo_both now _ L n W hW h.tb.isL.2 (by have := h.tb.few; omega) h.tb.good h.tb.lo
    rw [← hF0, ← hF1, ← hG1, ← hG2, ← hF3] at h1
    exact h1
  have HTX : Hid (∀ W v1 v2 (G : List ByteArray), SAt sCells 1 W v1 G → SAt sCells 1 W v2 G → Calls Try.prog 29 #[v1, v2] W fun e w' => e = .returned (.bool true) ∧ Below W.heap.size W w') := Lib.hid fun W v1 v2 G h1 h2 => by
    have h3 := texts_any v1 v2 G G W h1 h2
    rw [show decide (G = G) = true from decide_eq_true rfl] at h3
    exact h3
  have H := Lib.hid h
  have HBX := Lib.hid hbx
  have HBZ := Lib.hid hbz
  have HWZ := Lib.hid hwz
  have HLT := Lib.hid h.tb.tab.lt
  have he3 : (F3 == F3) = true := by simp
  obtain ⟨⟨x0, x1, -, -⟩, ⟨y0, y1, y2⟩, -⟩ := hbx.reads
  clear hQ h hbx hbz hkp hF0 hF1 hF3 hG1 hG2
  have hwz' := hwz
  clear hwz
  go_enter Try.func18, Try.ntmps18
  go_upto_region 14 with fail
  dsimp only at hwz'
  rw [← hwz']
  clear hwz'
  go_upto_region 15 with (go_at_call 13; refine HKP.out.mono ?_; rintro e w4 ⟨a, b, rfl, ha, hb, hd⟩; obtain ⟨Aa, ca, rfl⟩ := ha.slice; obtain ⟨Ab, cb, rfl⟩ := hb.slice; have HA := Lib.hid ha; have HBB := Lib.hid hb; have HD := Lib.hid hd; obtain ⟨es4, -, -, hm4⟩ := hd; have hbx4 := HBX.out.mov hm4 HLT.out; obtain ⟨⟨x0, x1, -, -⟩, ⟨y0, y1, y2⟩, -⟩ := hbx4.reads; have HBX4 := Lib.hid hbx4; have HS4 := Lib.hid (sat_mov (H.out.sl.below HBZ.out) hm4 fun j hj => (H.out.far j hj).1); clear hbx4 hm4 ha hb)
  go_upto_region 16 with (go_at_call 43; refine (HRK.out _ HS4.out).mono ?_; rintro e w5 ⟨u, a, b, rfl, hr, hc, hd, hb⟩; obtain ⟨A5, n5, c5, rfl⟩ := hr.form HS4.out; obtain ⟨Ac, cc, rfl⟩ := hc.slice; obtain ⟨Ad, cd, rfl⟩ := hd.slice; have HC := Lib.hid hc; have HDD := Lib.hid hd; have HA5 := Lib.hid (HA.out.below hb); have HBB5 := Lib.hid (HBB.out.below hb); obtain ⟨es', hst⟩ := H.out.step HBZ.out HD.out hr hb; have HST := Lib.hid hst; have hbx5 := HBX4.out.below hb; have HBX5 := Lib.hid hbx5; obtain ⟨⟨x0, x1, -, -⟩, ⟨y0, y1, y2⟩, z0, z1, z2, z3⟩ := hbx5.reads; clear hbx5 hst hr hb hc hd)
  have hb6 := bl_alloc (Below.refl w5.heap.size w5) (.cells #[.int .i64 F0, .slice A5 n5 c5] 47)
  have hk6 : (w5.alloc (.cells #[.int .i64 F0, .slice A5 n5 c5] 47)).heap[w5.heap.size]? = some (.cells #[.int .i64 F0, .slice A5 n5 c5] 47 (0, 0)) := at_alloc rfl
  have hbx6 := HBX5.out.below hb6
  have hst6 := HST.out.below hb6
  have HA6 := Lib.hid (HA5.out.below hb6)
  have HB6 := Lib.hid (HBB5.out.below hb6)
  have HC6 := Lib.hid (HC.out.below hb6)
  have HD6 := Lib.hid (HDD.out.below hb6)
  clear HST HA5 HBB5 HC HDD
  have HST := Lib.hid hst6
  generalize (w5.alloc (.cells #[.int .i64 F0, .slice A5 n5 c5] 47)) = w6 at hbx6 hk6 HST HA6 HB6 HC6 HD6 ⊢
  clear x0 x1 y0 y1 y2 z0 z1 z2 z3 hst6 hb6
  have HX : Hid (∀ W, Below w6.heap.size w6 W → W.cell? ⟨w5.heap.size, 0, none⟩ = some (.int .i64 F0) ∧ W.cell? ⟨w5.heap.size, 1, none⟩ = some (.slice A5 n5 c5) ∧ W.cell? ⟨w.heap.size + 2, 0, none⟩ = some (.int .i64 0) ∧ W.cell? ⟨w.heap.size + 2, 1, none⟩ = some (.slice none 0 0) ∧ W.frozen? ⟨w.heap.size + 2, 0, none⟩ = false ∧ W.frozen? ⟨w.heap.size + 2, 1, none⟩ = false) := Lib.hid fun W hW => by
    obtain ⟨k0, k1, -, -⟩ := cells2 hk6
    obtain ⟨-, -, z0, z1, z2, z3⟩ := (hbx6.below hW).reads
    exact ⟨bl_cell hW k0, bl_cell hW k1, z0, z1, z2, z3⟩
  obtain ⟨k0, k1, z0, z1, z2, z3⟩ := HX.out w6 (Below.refl _ _)
  have HBX6 := Lib.hid hbx6
  clear hbx6 hk6
  first
   | go_region_law (first
        | (go_simp; with_reducible refine (HTX.out _ _ _ G1 (HA6.out.below (by solve | exact bl_drew (Below.refl _ _) | exact Below.refl _ _ | exact bl_drewN (Below.refl _ _) _)) (HC6.out.below (by solve | exact bl_drew (Below.refl _ _) | exact Below.refl _ _ | exact bl_drewN (Below.refl _ _) _))).mono ?_; rintro e w7 ⟨rfl, hb7⟩; have hbw7 : Below w6.heap.size w6 w7 := bl_then (by solve | exact bl_drew (Below.refl _ _) | exact Below.refl _ _ | exact bl_drewN (Below.refl _ _) _) hb7; clear k0 k1 z0 z1 z2 z3; obtain ⟨k0, k1, z0, z1, z2, z3⟩ := HX.out w7 hbw7; have HBW7 := Lib.hid hbw7; clear hbw7 hb7)
        | (go_simp; with_reducible refine (HTX.out _ _ _ G2 (HB6.out.below HBW7.out) (HD6.out.below HBW7.out)).mono ?_; rintro e w8 ⟨rfl, hb8⟩; have hbw8 : Below w6.heap.size w6 w8 := bl_then HBW7.out hb8; clear k0 k1 z0 z1 z2 z3; obtain ⟨k0, k1, z0, z1, z2, z3⟩ := HX.out w8 hbw8; have HBW8 := Lib.hid hbw8; clear hbw8 hb8))
   | fail "law"
  all_goals
    have HST8 := Lib.hid (HST.out.below HBW8.out)
    clear HST
    have HST := Lib.hid HST8.out
    have HBX8 := Lib.hid (HBX6.out.below HBW8.out)
    clear HST8
    go_wp2_with fail
    obtain ⟨s0, s1⟩ := set2 HBX8.out.b2 (.int .i64 F0) (.slice A5 n5 c5); refine bodyPost_ret (v := .tuple #[.agg #[.int .i64 F0, .slice A5 n5 c5], .bool true]) (by simp [results, Try.results18, go_sem, s0, s1]) rfl ?_; rw [HQ.out]; exact ⟨_, es', rfl, ((HST.out.set H.out (q := ⟨w.heap.size + 2, 0, none⟩) (by show w.heap.size ≤ w.heap.size + 2; omega) (by have := HBX.out.size; show w.heap.size + 2 < wz.heap.size; omega) (.int .i64 F0)).set H.out (q := ⟨w.heap.size + 2, 1, none⟩) (by show w.heap.size ≤ w.heap.size + 2; omega) (by have := HBX.out.size; show w.heap.size + 2 < wz.heap.size; omega) (.slice A5 n5 c5)).from HBZ.out.size⟩
set_option maxRecDepth 100000 in
set_option maxHeartbeats 1000000 in
theorem does_0 (p r : Nat) (now : Int) (L : List Th) (es : List (Nat × Th)) (v : Value) (k : Int) (s : ByteArray) (n : Int) (w : World) (h : Two w p r now L es v) (h1 : k ≠ 1) (h2 : k ≠ 2) (h3 : k ≠ 3) (h4 : k ≠ 4) :
    Calls Try.prog 18 #[.pointer (some ⟨p, 0, none⟩), .agg #[.int .i64 now, v], .agg #[.int .i64 k, .string s, .int .i64 n]] w fun e w' => ∃ u es', e = .returned (.tuple #[.agg #[.int .i64 now, u], .bool true]) ∧ Stp w w.heap.size p r es v w' now L es' u := by
  obtain ⟨A, c, rfl⟩ := h.sl.slice
  obtain ⟨Q, hQ⟩ : ∃ Q : Ending → World → Prop, Q = fun e w' => ∃ u es', e = .returned (.tuple #[.agg #[.int .i64 now, u], .bool true]) ∧ Stp w w.heap.size p r es (.slice A L.length c) w' now L es' u := ⟨_, rfl⟩
  rw [← hQ]
  have HQ := Lib.hid hQ
  obtain ⟨wz, hwz, hbx, hbz⟩ := dox_new w now (.slice A L.length c) ⟨k, s, n⟩
  have H := Lib.hid h
  have hst := h.still hbz
  have HST := Lib.hid hst
  have HBX := Lib.hid hbx
  have HBZ := Lib.hid hbz
  have HWZ := Lib.hid hwz
  have e1 : (k == 1) = false := beq_eq_false_iff_ne.2 h1
  have e2 : (k == 2) = false := beq_eq_false_iff_ne.2 h2
  have e3 : (k == 3) = false := beq_eq_false_iff_ne.2 h3
  have e4 : (k == 4) = false := beq_eq_false_iff_ne.2 h4
  obtain ⟨⟨x0, x1, -, -⟩, ⟨y0, y1, y2⟩, z0, z1, z2, z3⟩ := hbx.reads
  clear hQ h hbx hbz hst h1 h2 h3 h4
  have hwz' := hwz
  clear hwz
  go_enter Try.func18, Try.ntmps18
  go_upto_region 2 with fail
  dsimp only at hwz'
  rw [← hwz']
  clear hwz'
  go_wp2_with fail
  obtain ⟨s0, s1⟩ := set2 HBX.out.b2 (.int .i64 now) (.slice A L.length c); refine bodyPost_ret (v := .tuple #[.agg #[.int .i64 now, .slice A L.length c], .bool true]) (by simp [results, Try.results18, go_sem, s0, s1]) rfl ?_; rw [HQ.out]; exact ⟨_, es, rfl, ((HST.out.set H.out (q := ⟨w.heap.size + 2, 0, none⟩) (by show w.heap.size ≤ w.heap.size + 2; omega) (by have := HBX.out.size; show w.heap.size + 2 < wz.heap.size; omega) (.int .i64 now)).set H.out (q := ⟨w.heap.size + 2, 1, none⟩) (by show w.heap.size ≤ w.heap.size + 2; omega) (by have := HBX.out.size; show w.heap.size + 2 < wz.heap.size; omega) (.slice A L.length c)).from HBZ.out.size⟩
/-- Any call. -/
theorem does_any (p r : Nat) (now : Int) (L : List Th) (es : List (Nat × Th)) (v : Value) (x : Ac) (w : World) (h : Two w p r now L es v) :
    Calls Try.prog 18 #[.pointer (some ⟨p, 0, none⟩), .agg #[.int .i64 now, v], x.val] w fun e w' => ∃ u es', e = .returned (.tuple #[.agg #[.int .i64 (doL now L x).1, u], .bool true]) ∧ Stp w w.heap.size p r es v w' (doL now L x).1 (doL now L x).2 es' u := by
  obtain ⟨k, s, n⟩ := x
  unfold doL
  dsimp only [Ac.val]
  by_cases h1 : k = 1
  · subst h1; rw [if_pos rfl]; exact does_1 p r now L es v s n w h
  · rw [if_neg h1]
    by_cases h2 : k = 2
    · subst h2; rw [if_pos rfl]; exact does_2 p r now L es v s n w h
    · rw [if_neg h2]
      by_cases h3 : k = 3
      · subst h3; rw [if_pos rfl]; exact does_3 p r now L es v s n w h
      · rw [if_neg h3]
        by_cases h4 : k = 4
        · subst h4
          rw [if_pos rfl]
          have h5 := does_4 p r now L es v s n w h
          unfold goR at h5
          by_cases hn : n < now ∨ 2147483647 < n
          · rw [if_pos hn] at h5 ⊢; exact h5
          · rw [if_neg hn] at h5 ⊢; exact h5
        · rw [if_neg h4]; exact does_0 p r now L es v k s n w h h1 h2 h3 h4
end Go.Proofs.Ytojeombljhmkaaa
