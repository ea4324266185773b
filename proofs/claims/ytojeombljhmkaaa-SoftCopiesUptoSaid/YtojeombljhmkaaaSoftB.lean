/- Soft: a table in memory; none, New, Now, Len. -/
import Derived.Test.YtojeombljhmkaaaSoftA
namespace Go.Proofs.Ytojeombljhmkaaa
open Go.RowKit Go.Shelf
set_option linter.unusedVariables false
set_option linter.unusedSimpArgs false
attribute [local go_sem] Oper.semAt_some
abbrev encS (x : ByteArray) : Value := .string x
theorem klawS : KLaw Try.prog 9 encS := klaw_string Try.underlying9
/-- A table: its tick, and its things, each in a block of its own, in the order in which they came. -/
structure TAt (w : World) (p r : Nat) (now : Int) (es : List (Nat × Th)) : Prop where
  own : w.heap[p]? = some (.cells #[.int .i64 now, .map (some r)] 65 (0, 0))
  map : MapOf encS w r (es.map fun e => (e.2.name, Value.pointer (some ⟨e.1, 0, none⟩)))
  each : ∀ e ∈ es, w.heap[e.1]? = some (.cells (Th.cells e.2).toArray 35 (0, 0))
  nodup : (es.map (·.1)).Nodup
theorem TAt.below {w W : World} {p r : Nat} {now : Int} {es : List (Nat × Th)} (h : TAt w p r now es) (hb : Below w.heap.size w W) : TAt W p r now es :=
  ⟨(hb.block p (Array.getElem?_eq_some_iff.1 h.own).1).trans h.own, h.map.below hb, fun e he => (hb.block e.1 (Array.getElem?_eq_some_iff.1 (h.each e he)).1).trans (h.each e he), h.nodup⟩
theorem at_alloc {w : World} {o : Obj} {n : Nat} (h : n = w.heap.size) : (w.alloc o).heap[n]? = some o := by subst h; show (w.heap.push o)[w.heap.size]? = _; simp
theorem cell_blk {w : World} {g o : Nat} {t : TypeId} {fr : Nat × Nat} {cur : Array Value} (h : w.heap[g]? = some (.cells cur t fr)) : w.cell? ⟨g, o, none⟩ = cur[o]? := by simp [World.cell?, h]
theorem TAt.cells {w : World} {p r : Nat} {now : Int} {es : List (Nat × Th)} (h : TAt w p r now es) : w.cell? ⟨p, 0, none⟩ = some (.int .i64 now) ∧ w.cell? ⟨p, 1, none⟩ = some (.map (some r)) := by
  rw [cell_blk h.own, cell_blk h.own]
  exact ⟨rfl, rfl⟩
/-- No table. -/
def NoTab (w : World) (v : Value) : Prop := v = .pointer none ∨ ∃ p, v = .pointer (some ⟨p, 0, none⟩) ∧ w.cell? ⟨p, 1, none⟩ = some (.map none)
theorem NoTab.below {w W : World} {v : Value} (h : NoTab w v) (hb : Below w.heap.size w W) : NoTab W v := by
  rcases h with h | ⟨p, h, hc⟩
  · exact .inl h
  · exact .inr ⟨p, h, bl_cell hb hc⟩
set_option maxHeartbeats 400000 in
theorem none_yes (v : Value) (w : World) (h : NoTab w v) :
    Calls Try.prog 30 #[v] w fun e w' => e = .returned (.bool true) ∧ w = w' := by
  have k1 := fun (w : World) (a : Option Nat) => run_eql_map_nil (P := Try.prog) w 63 _ _ a Try.underlying63
  rcases h with rfl | ⟨p, rfl, hc⟩
  · go_enter Try.func30, Try.ntmps30
    go_wp2
    go_ret
    exact ⟨rfl, rfl⟩
  · go_enter Try.func30, Try.ntmps30
    go_wp2
    go_ret
    exact ⟨rfl, rfl⟩
set_option maxHeartbeats 400000 in
theorem none_no (p r : Nat) (w : World) (hc : w.cell? ⟨p, 1, none⟩ = some (.map (some r))) :
    Calls Try.prog 30 #[.pointer (some ⟨p, 0, none⟩)] w fun e w' => e = .returned (.bool false) ∧ w = w' := by
  have k1 := fun (w : World) (a : Option Nat) => run_eql_map_nil (P := Try.prog) w 63 _ _ a Try.underlying63
  go_enter Try.func30, Try.ntmps30
  go_wp2
  go_ret
  exact ⟨rfl, rfl⟩
set_option maxHeartbeats 400000 in
theorem now_none (v : Value) (w : World) (h : NoTab w v) :
    Calls Try.prog 28 #[v] w fun e w' => e = .returned (.int .i64 0) ∧ w = w' := by
  have hn := none_yes v w h
  clear h
  go_enter Try.func28, Try.ntmps28
  go_wp2_with (go_at_call 30; refine hn.mono ?_; rintro e w' ⟨rfl, rfl⟩)
  go_ret
  exact ⟨rfl, rfl⟩
set_option maxHeartbeats 400000 in
theorem now_any (p r : Nat) (now : Int) (es : List (Nat × Th)) (w : World) (h : TAt w p r now es) :
    Calls Try.prog 28 #[.pointer (some ⟨p, 0, none⟩)] w fun e w' => e = .returned (.int .i64 now) ∧ w = w' := by
  obtain ⟨c0, c1⟩ := h.cells
  clear h
  go_enter Try.func28, Try.ntmps28
  go_wp2_with (go_at_call 30; refine (none_no p r _ c1).mono ?_; rintro e w' ⟨rfl, rfl⟩)
  go_ret
  exact ⟨rfl, rfl⟩
set_option maxHeartbeats 400000 in
theorem len_none (v : Value) (w : World) (h : NoTab w v) :
    Calls Try.prog 12 #[v] w fun e w' => e = .returned (.int .i64 0) ∧ w = w' := by
  have hn := none_yes v w h
  clear h
  go_enter Try.func12, Try.ntmps12
  go_wp2_with (go_at_call 30; refine hn.mono ?_; rintro e w' ⟨rfl, rfl⟩)
  go_ret
  exact ⟨rfl, rfl⟩
theorem mlen_T {w : World} {p r : Nat} {now : Int} {es : List (Nat × Th)} (h : TAt w p r now es) (ty : TypeId) : (Builtin.len_ #[63] ty #[.map (some r)]).run Try.prog w = .ok (.int .i64 es.length) w := by
  obtain ⟨ees, cl, hb2, hsz⟩ := run_mlen h.map
  simp [Builtin.len_, run_underlying Try.underlying63, MapKept.run_getObj_map hb2, goInt, hsz]
set_option maxHeartbeats 400000 in
theorem len_any (p r : Nat) (now : Int) (es : List (Nat × Th)) (w : World) (h : TAt w p r now es) :
    Calls Try.prog 12 #[.pointer (some ⟨p, 0, none⟩)] w fun e w' => e = .returned (.int .i64 es.length) ∧ w = w' := by
  obtain ⟨c0, c1⟩ := h.cells
  have hml := mlen_T h
  clear h
  go_enter Try.func12, Try.ntmps12
  go_wp2_with (go_at_call 30; refine (none_no p r _ c1).mono ?_; rintro e w' ⟨rfl, rfl⟩)
  go_ret
  exact ⟨rfl, rfl⟩
set_option maxHeartbeats 400000 in
theorem new_any (w : World) :
    Calls Try.prog 10 #[] w fun e w' => e = .returned (.pointer (some ⟨w.heap.size + 1, 0, none⟩)) ∧ TAt w' (w.heap.size + 1) w.heap.size 0 [] ∧ Below w.heap.size w w' := by
  have hmm := @run_makeMap Try.prog
  go_enter Try.func10, Try.ntmps10
  go_wp2
  go_ret
  refine ⟨rfl, ⟨?_, (MapOf.made w).below (bl_alloc (Below.refl _ _) _), by simp, by simp⟩, bl_alloc (bl_alloc (Below.refl _ _) _) _⟩
  exact at_alloc (by simp)
end Go.Proofs.Ytojeombljhmkaaa
