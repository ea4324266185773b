/- Topo: numbers of links, sorted by the nodes to which they go. -/
import Derived.Test.YtfifmkjidljeeaaTopoQ
import Derived.Test.YtfifmkjidljeeaaSortA
import Derived.Test.YtfifmkjidljeeaaShelf
namespace Go.Proofs.Ytfifmkjidljeeaa
open Go.RowKit Go.Shelf Go.Sort
set_option linter.unusedVariables false
set_option linter.unusedSimpArgs false
def cmpI (a b : Int) : Int := if a < b then -1 else if b < a then 1 else 0
theorem cmpI_lt (a b : Int) : cmpI a b < 0 ↔ a < b := by
  unfold cmpI
  split
  · omega
  · split <;> omega
set_option maxHeartbeats 400000 in
theorem isNaN_any (a : Int) (w : World) :
    Calls Try.prog 51 #[.int .i64 a] w fun e w' => e = .returned (.bool false) ∧ w = w' := by
  go_enter Try.func51, Try.ntmps51
  go_wp2
  go_ret
  exact ⟨rfl, rfl⟩
set_option maxHeartbeats 400000 in
theorem cmp_any (a b : Int) (w : World) :
    Calls Try.prog 39 #[.int .i64 a, .int .i64 b] w fun e w' => e = .returned (.int .i64 (cmpI a b)) ∧ w = w' := by
  by_cases h1 : a < b
  · have hc : cmpI a b = -1 := by unfold cmpI; rw [if_pos h1]
    rw [hc]
    go_enter Try.func39, Try.ntmps39
    go_wp2_with (go_at_call 51; refine (isNaN_any _ _).mono ?_; rintro e w' ⟨rfl, rfl⟩)
    go_ret
    exact ⟨rfl, rfl⟩
  · by_cases h2 : b < a
    · have hc : cmpI a b = 1 := by unfold cmpI; rw [if_neg h1, if_pos h2]
      rw [hc]
      go_enter Try.func39, Try.ntmps39
      go_wp2_with (go_at_call 51; refine (isNaN_any _ _).mono ?_; rintro e w' ⟨rfl, rfl⟩)
      go_ret
      exact ⟨rfl, rfl⟩
    · have hc : cmpI a b = 0 := by unfold cmpI; rw [if_neg h1, if_neg h2]
      rw [hc]
      go_enter Try.func39, Try.ntmps39
      go_wp2_with (go_at_call 51; refine (isNaN_any _ _).mono ?_; rintro e w' ⟨rfl, rfl⟩)
      go_ret
      exact ⟨rfl, rfl⟩
/-- Numbers below n + 1, as values. -/
abbrev ixV {n : Nat} (x : Fin (n + 1)) : Value := .int .i64 (x.1 : Nat)
def cmpTo (ls : List Lk) {n : Nat} (x y : Fin (n + 1)) : Int := cmpI (To ls x.1) (To ls y.1)
theorem ltTo (ls : List Lk) {n : Nat} (x y : Fin (n + 1)) : ltOf (cmpTo ls) x y = decide (To ls x.1 < To ls y.1) := by
  unfold ltOf cmpTo
  by_cases h : To ls x.1 < To ls y.1 <;> simp [h, cmpI_lt]
theorem swoTo (ls : List Lk) (n : Nat) : SWO (ltOf (cmpTo ls (n := n))) where
  irrefl x := by rw [ltTo]; simp
  trans x y z h1 h2 := by rw [ltTo] at *; simp at *; omega
  ntrans x y z h1 h2 := by rw [ltTo] at *; simp at *; omega
theorem enc_out2 : ∀ args w, (callFunc 38 args).run Try.prog w = .ok (.enter 38 args) w := enters_of Try.func38 (by kernel_rfl) rfl
set_option maxHeartbeats 1000000 in
/-- The closure that compares two links of a map. -/
theorem out2_any (q bm : Nat) (nodes : Int) (ls : List Lk) (i j : Nat) (w : World) (hi : i < ls.length) (hj : j < ls.length) (h : TMap w q nodes ls) (hbm : w.cell? ⟨bm, 0, none⟩ = some (.pointer (some ⟨q, 0, none⟩))) :
    Calls Try.prog 38 #[.int .i64 i, .int .i64 j, .pointer (some ⟨bm, 0, none⟩)] w fun e w' => e = .returned (.int .i64 (cmpI (To ls i) (To ls j))) ∧ ∃ m, w' = w.drewN m := by
  obtain ⟨v, r, h0, h1, h2, h3, h4⟩ := h
  clear h4
  have hgi : ls[i]? = some ls[i] := List.getElem?_eq_getElem hi
  have hgj : ls[j]? = some ls[j] := List.getElem?_eq_getElem hj
  rw [to_eq hgi, to_eq hgj]
  generalize ls[i] = li at hgi ⊢
  generalize ls[j] = lj at hgj ⊢
  rcases h3 with ⟨rfl, rfl⟩ | ⟨b, o, c, rfl, hc1, hc2, hrow⟩
  · simp at hi
  · obtain ⟨-, c1, -⟩ := LkAt.ofRow hrow hgi
    obtain ⟨-, d1, -⟩ := LkAt.ofRow hrow hgj
    have hiz : (i : Int) < (ls.length : Int) := by omega
    have hjz : (j : Int) < (ls.length : Int) := by omega
    unfold maxLen at hc2
    clear hrow hgi hgj
    generalize hR : cmpI li.b lj.b = R
    have HR := Lib.hid hR
    clear hR
    go_enter Try.func38, Try.ntmps38
    go_wp2_with fail
    go_quiet ((go_at_call 39; exact Calls.quiet_of_same ((cmp_any _ _ _).mono fun e w' h => ⟨h.1, h.2.symm⟩)))
    go_wp2
    go_ret
    exact ⟨by rw [← HR.out]; rfl, _, rfl⟩
set_option maxRecDepth 100000 in
set_option maxHeartbeats 400000 in
/-- slices.SortFunc over numbers of links, in a slice of the call's own. -/
theorem sort_ix (n : Nat) (cf : Fin (n + 1) → Fin (n + 1) → Int) (hO : SWO (ltOf cf)) (g : Nat) (cb : Array Value) (eg : ∀ args w, (callFunc g args).run Try.prog w = .ok (.enter g args) w) (base : Nat) (v : Value) (xs : List (Fin (n + 1))) (w : World)
    (hrow : w.ownsRow base 3 1 v xs.length (xs.map ixV)) (hb0 : base ≤ w.heap.size) (hlen : xs.length ≤ 1000000000)
    (hcmp : ∀ W, Below base w W → ∀ x y, Calls Try.prog g (#[ixV x, ixV y] ++ cb) W fun e w' => e = .returned (.int .i64 (cf x y)) ∧ ∃ q, w' = W.drewN q) :
    Calls Try.prog 37 #[v, .func (.func g) #[] cb] w fun e w' => e = .returned (.tuple #[]) ∧ (∃ ys, ys.Perm xs ∧ SortedBy cf ys ∧ w'.ownsRow base 3 1 v ys.length (ys.map ixV)) ∧ Below base w w' := by
  have h1 : OneCell (ixV (n := n)) := fun x => rfl
  have hrow0 := hrow
  rcases hrow.2 with ⟨rfl, hn⟩ | ⟨g', cap, cur, rfl, hbase, hb, h2, h3, h4, h5⟩
  · obtain rfl : xs = [] := List.eq_nil_of_length_eq_zero hn
    have hc := AnyF.slices_SortFunc_none (P := Try.prog) { Try.sortIx with } none 0 (.func (.func g) #[] cb) w
    change Calls Try.prog 37 _ _ _ at hc
    refine hc.mono ?_
    rintro e w' ⟨rfl, rfl⟩
    exact ⟨rfl, ⟨[], List.Perm.refl _, List.Pairwise.nil, hrow0⟩, Below.refl _ _⟩
  · have hg : g' < w.heap.size := (Array.getElem?_eq_some_iff.1 hb).1
    have hgb : ∀ (m : Nat) (os : Array Obj) (d : Array (Fin (n + 1))), Below base w (sortWorld ixV w g' 0 m d os) := fun m os d =>
      (Below.refl base w).grown (grownBy_sorted1 d) hb0 (fun k e => by cases e; exact hbase)
    have hcl : CmpLays1 Try.prog g cb (ixV (n := n)) cf g' 0 xs.toArray.size w := fun m os dk _ x y => (hcmp _ (hgb m os dk) x y).mono fun _ _ ⟨he, q, hq⟩ => ⟨he, q, #[], by rw [hq, grow_empty]⟩
    have hc := Any.slices_SortFunc (P := Try.prog) Try.sortIx ixV h1 cf hO g cb g' 0 cap xs.toArray w eg hcl (holds1_of hb (by simpa using h5)) hg (by simp; omega)
    change Calls Try.prog 37 _ _ _ at hc
    simp only [List.size_toArray] at hc
    refine hc.mono ?_
    rintro e w' ⟨rfl, d', m, os, hp, hs, rfl⟩
    have hp' : PermIn 0 xs.toArray.size xs.toArray d' := by simpa using hp
    have hpm := perm_of hp'
    have hsz : d'.size = xs.length := by have := hp'.1; simpa using this
    have hs' : SortedIn (ltOf cf) 0 d'.size d' := by rw [hsz]; exact hs
    have hl : d'.toList.length = xs.length := by simpa using hsz
    refine ⟨rfl, ⟨d'.toList, by simpa using hpm, sortedBy_of hs', ?_⟩, hgb m os d'⟩
    have := ownsRow_sorted1 (enc := ixV (n := n)) (w := w) (n := m) (os := os) (ys := d'.toList) hbase hb (by omega) h3 (by simpa using h4)
    rw [show d'.toList.toArray = d' from by simp] at this
    rw [← hl]
    exact this
end Go.Proofs.Ytfifmkjidljeeaa
