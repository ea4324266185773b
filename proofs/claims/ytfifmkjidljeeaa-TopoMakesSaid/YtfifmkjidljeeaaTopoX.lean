/- Topo: told. -/
import Derived.Test.YtfifmkjidljeeaaTopoU
import Derived.Test.YtfifmkjidljeeaaTopoV
import Derived.Test.YtfifmkjidljeeaaTopoW
namespace Go.Proofs.Ytfifmkjidljeeaa
open Go.RowKit Go.Shelf
set_option linter.unusedVariables false
set_option linter.unusedSimpArgs false
attribute [local go_sem] Oper.semAt_some
/-- A frame of 185 temporaries, written out. -/
def lit185 (u : Nat → Value) : Array Value := #[u 0, u 1, u 2, u 3, u 4, u 5, u 6, u 7, u 8, u 9, u 10, u 11, u 12, u 13, u 14, u 15, u 16, u 17, u 18, u 19, u 20, u 21, u 22, u 23, u 24, u 25, u 26, u 27, u 28, u 29, u 30, u 31, u 32, u 33, u 34, u 35, u 36, u 37, u 38, u 39, u 40, u 41, u 42, u 43, u 44, u 45, u 46, u 47, u 48, u 49, u 50, u 51, u 52, u 53, u 54, u 55, u 56, u 57, u 58, u 59, u 60, u 61, u 62, u 63, u 64, u 65, u 66, u 67, u 68, u 69, u 70, u 71, u 72, u 73, u 74, u 75, u 76, u 77, u 78, u 79, u 80, u 81, u 82, u 83, u 84, u 85, u 86, u 87, u 88, u 89, u 90, u 91, u 92, u 93, u 94, u 95, u 96, u 97, u 98, u 99, u 100, u 101, u 102, u 103, u 104, u 105, u 106, u 107, u 108, u 109, u 110, u 111, u 112, u 113, u 114, u 115, u 116, u 117, u 118, u 119, u 120, u 121, u 122, u 123, u 124, u 125, u 126, u 127, u 128, u 129, u 130, u 131, u 132, u 133, u 134, u 135, u 136, u 137, u 138, u 139, u 140, u 141, u 142, u 143, u 144, u 145, u 146, u 147, u 148, u 149, u 150, u 151, u 152, u 153, u 154, u 155, u 156, u 157, u 158, u 159, u 160, u 161, u 162, u 163, u 164, u 165, u 166, u 167, u 168, u 169, u 170, u 171, u 172, u 173, u 174, u 175, u 176, u 177, u 178, u 179, u 180, u 181, u 182, u 183, u 184]
theorem lit185_eq (u : Nat → Value) : lit185 u = ((List.range 185).map u).toArray := by kernel_rfl
theorem lit185_of (t : Array Value) (h : t.size = 185) : ∃ u, t = lit185 u := by
  refine ⟨fun i => t[i]?.getD undef, ?_⟩
  rw [lit185_eq]
  apply Array.ext
  · simp [h]
  · intro i h1 h2
    simp [h1]
/-- The marks that ranges over functions leave. -/
def marks (ds : List Nat) : List Deferred := ds.map fun D => { target := .collected D, args := #[] }
/-- The way out of a function that holds so many ranges over functions and whose result lies in a cell. -/
theorem leave_many {fn : Func} {n t b : Nat} {tmps : Array Value} {w : World} (hr : fn.results = #[.cell t 4]) (htm : tmps[t]?.getD undef = .pointer (some ⟨b, 0, none⟩)) : ∀ (ds : List Nat) (W : World), ds.Nodup → (∀ D ∈ ds, w.heap.size ≤ D ∧ W.heap[D]? = some (.deferred (some []))) → W.cell? ⟨b, 0, none⟩ = some (.bool true) → Below w.heap.size w W →
    LeavesInM Fence.wide n Try.prog fn tmps (fun e w' => e = .returned (.bool true) ∧ Below w.heap.size w w') (marks ds) .returning W
  | [], W, _, _, hc, hb => ⟨.bool true, by simp [results, hr, go_sem, htm, hc], rfl, hb⟩
  | D :: ds, W, hn, hd, hc, hb => by
    obtain ⟨hD, hK⟩ := hd D (by simp)
    rw [List.nodup_cons] at hn
    refine ⟨by simp, .inl ⟨_, _, rfl, run_takeDeferred hK, ?_⟩⟩
    refine leave_many hr htm ds _ hn.2 (fun E hE => ?_) (cell_kept hc (grownBy_putObj' _ D (.deferred none)) (fun r e => by cases e; exact ⟨_, hK, rfl⟩)) (hb.trans (belowK_b (w := w) (Nat.le_refl _) _ D _ _ hD hK rfl rfl))
    have := hd E (List.mem_cons_of_mem _ hE)
    refine ⟨this.1, ?_⟩
    rw [World.putObj_heap_other (by rintro rfl; exact hn.1 hE)]
    exact this.2

/-- Is there a link of the number? -/
def inR (ls : List Lk) (n : Int) : Prop := 0 ≤ n ∧ n < ls.length
instance (ls : List Lk) (n : Int) : Decidable (inR ls n) := inferInstanceAs (Decidable (_ ∧ _))
def lkOf (ls : List Lk) (n : Int) : Lk := if inR ls n then ls.getD n.toNat Lk0 else Lk0
def erOf (ls : List Lk) (n : Int) : Int := if inR ls n then 0 else 4
def bkOf (ls : List Lk) (n : Int) : Int := if inR ls n then posI ls (lkOf ls n).b (lkOf ls n).a else 0
def t1Of (ls : List Lk) (n : Int) : Int := if inR ls n then (lkOf ls n).f else 0
def t2Of (ls : List Lk) (n : Int) : Int := if inR ls n then upI (lkOf ls n).f (lkOf ls n).c + 1 + (lkOf ls n).e else 0
theorem lkOf_get {ls : List Lk} {n : Int} (h : inR ls n) : ls[n.toNat]? = some (lkOf ls n) := by
  have hl : n.toNat < ls.length := by have := h.1; have := h.2; omega
  unfold lkOf
  rw [if_pos h, List.getD_eq_getElem?_getD, List.getElem?_eq_getElem hl]
  rfl
theorem link_u (q : Nat) (nodes : Int) (ls : List Lk) (n : Int) (w : World) (h : TMap w q nodes ls) :
    Calls Try.prog 13 #[.pointer (some ⟨q, 0, none⟩), .int .i64 n] w fun e w' => e = .returned (.tuple #[(lkOf ls n).val, .int .i64 (erOf ls n)]) ∧ Below w.heap.size w w' := by
  by_cases hr : inR ls n
  · have := link_yes q nodes ls n.toNat (lkOf ls n) w h (lkOf_get hr)
    rw [show ((n.toNat : Nat) : Int) = n by have := hr.1; omega] at this
    unfold erOf
    rw [if_pos hr]
    exact this
  · unfold lkOf erOf
    rw [if_neg hr, if_neg hr]
    exact link_no q nodes ls n w h (by unfold inR at hr; omega)
/-- Is each link's way back there? -/
def AllBack (ls : List Lk) : Prop := ∀ l ∈ ls, ∃ k, pos ls l.b l.a = some k
theorem allBack_of {nodes : Int} {ls : List Lk} (h : newErr nodes ls = 0) : AllBack ls := by
  intro l hl
  have := List.all_eq_true.1 (newErr_zero h).2.2.2.2 l hl
  rw [btw_pos, Option.isSome_map] at this
  exact Option.isSome_iff_exists.1 this
theorem back_u (q : Nat) (nodes : Int) (ls : List Lk) (n : Int) (w : World) (h : TMap w q nodes ls) (hb : AllBack ls) :
    Calls Try.prog 23 #[.pointer (some ⟨q, 0, none⟩), .int .i64 n] w fun e w' => e = .returned (.tuple #[.int .i64 (bkOf ls n), .int .i64 (erOf ls n)]) ∧ Below w.heap.size w w' := by
  by_cases hr : inR ls n
  · have := back_yes q nodes ls n.toNat (lkOf ls n) w h (lkOf_get hr)
    rw [show ((n.toNat : Nat) : Int) = n by have := hr.1; omega] at this
    obtain ⟨k, hk⟩ := hb _ (List.mem_of_getElem? (lkOf_get hr))
    unfold erOf bkOf
    rw [if_pos hr, if_pos hr]
    rw [btw_pos, hk] at this
    unfold posI
    rw [hk]
    exact this
  · unfold bkOf erOf
    rw [if_neg hr, if_neg hr]
    exact back_no q nodes ls n w h (by unfold inR at hr; omega)
set_option maxHeartbeats 400000 in
theorem terms_no (q : Nat) (nodes : Int) (ls : List Lk) (n : Int) (w : World) (h : TMap w q nodes ls) (hn : n < 0 ∨ (ls.length : Int) ≤ n) :
    Calls Try.prog 24 #[.pointer (some ⟨q, 0, none⟩), .int .i64 n] w fun e w' => e = .returned (.tuple #[.agg #[.int .i64 0, .int .i64 0], .int .i64 4]) ∧ Below w.heap.size w w' := by
  have H := Lib.hid h
  have HN := Lib.hid hn
  clear h hn
  go_enter Try.func24, Try.ntmps24
  go_wp2_with fail
  refine (link_no q nodes ls n _ (H.out.below (bl_alloc (Below.refl _ _) _)) HN.out).mono ?_
  rintro e w1 ⟨rfl, hb⟩
  have hz : w.heap.size < w1.heap.size := by have := hb.size; simp at this; omega
  have c0 : w1.cell? ⟨w.heap.size, 0, none⟩ = some (.int .i64 0) := bl_cell hb (by go_simp)
  have c1 : w1.cell? ⟨w.heap.size, 1, none⟩ = some (.int .i64 0) := bl_cell hb (by go_simp)
  have f0 : w1.frozen? ⟨w.heap.size, 0, none⟩ = false := ((bl_cells hb).2 _ _ (by simp)).trans (by go_simp)
  have f1 : w1.frozen? ⟨w.heap.size, 1, none⟩ = false := ((bl_cells hb).2 _ _ (by simp)).trans (by go_simp)
  have HB := Lib.hid hb
  clear hb
  unfold Lk0 Lk.val
  go_wp2
  refine bodyPost_ret (v := .tuple #[.agg #[.int .i64 0, .int .i64 0], .int .i64 4]) (by simp [results, Try.results24, go_sem, hz, c0, c1]) rfl ⟨rfl, ?_⟩
  exact by
    have := (bl_alloc (Below.refl w.heap.size w) (.cells #[.int .i64 0, .int .i64 0] 61)).trans (HB.out.mono (by simp))
    repeat (first | exact this | refine bl_alloc ?_ _ | refine bl_set ?_ (by simp) _)
theorem terms_u (q : Nat) (nodes : Int) (ls : List Lk) (n : Int) (w : World) (h : TMap w q nodes ls) (hok : ∀ l ∈ ls, okLink l nodes = true) :
    Calls Try.prog 24 #[.pointer (some ⟨q, 0, none⟩), .int .i64 n] w fun e w' => e = .returned (.tuple #[.agg #[.int .i64 (t1Of ls n), .int .i64 (t2Of ls n)], .int .i64 (erOf ls n)]) ∧ Below w.heap.size w w' := by
  by_cases hr : inR ls n
  · have := terms_yes q nodes ls n.toNat (lkOf ls n) w h (lkOf_get hr) (hok _ (List.mem_of_getElem? (lkOf_get hr)))
    rw [show ((n.toNat : Nat) : Int) = n by have := hr.1; omega] at this
    unfold erOf t1Of t2Of
    rw [if_pos hr, if_pos hr, if_pos hr]
    exact this
  · unfold t1Of t2Of erOf
    rw [if_neg hr, if_neg hr, if_neg hr]
    exact terms_no q nodes ls n w h (by unfold inR at hr; omega)
/-- There and back again. -/
theorem back_again {ls : List Lk} {n : Int} (ha : Apart ls) (hb : AllBack ls) (hr : inR ls n) : inR ls (bkOf ls n) ∧ bkOf ls (bkOf ls n) = n := by
  obtain ⟨k, hk⟩ := hb _ (List.mem_of_getElem? (lkOf_get hr))
  obtain ⟨m, hm, h1, h2⟩ := pos_some hk
  have e1 : bkOf ls n = (k : Nat) := by unfold bkOf; rw [if_pos hr]; unfold posI; rw [hk]
  have hl : k < ls.length := (List.getElem?_eq_some_iff.1 hm).1
  have hr2 : inR ls (k : Nat) := ⟨by omega, by omega⟩
  rw [e1]
  refine ⟨hr2, ?_⟩
  have e2 : lkOf ls (k : Nat) = m := by
    have := lkOf_get hr2
    rw [show ((k : Nat) : Int).toNat = k by omega, hm] at this
    exact (Option.some.inj this).symm
  unfold bkOf
  rw [if_pos hr2, e2, h1, h2]
  have := posI_of ha (lkOf_get hr)
  rw [this]
  have := hr.1
  omega
end Go.Proofs.Ytfifmkjidljeeaa
