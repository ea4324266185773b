/- Soft: how all compares; slices.SortFunc at things. -/
import Derived.Test.YtojeombljhmkaaaSoftG
import Derived.Test.YtojeombljhmkaaaSort
import Derived.Test.YtojeombljhmkaaaShelf
import Derived.Sort.LotA
namespace Go.Proofs.Ytojeombljhmkaaa
open Go.RowKit Go.Shelf Go.Sort
set_option linter.unusedVariables false
set_option linter.unusedSimpArgs false
attribute [local go_sem] Oper.semAt_some
instance : Inhabited Th := ⟨⟨ByteArray.empty, 0, 0, 0⟩⟩
theorem less_eq : ∀ (x y : List UInt8), Op.bytesLess x y = ltStr x y
  | [], [] => by simp [Op.bytesLess, ltStr]
  | _ :: _, [] => by simp [Op.bytesLess, ltStr]
  | [], _ :: _ => by simp [Op.bytesLess, ltStr]
  | a :: x, b :: y => by
    rw [Op.bytesLess, less_eq x y]
    simp only [ltStr, List.cons_lt_cons_iff]
    by_cases h1 : a < b <;> by_cases h2 : a = b <;> simp [h1, h2]
/-- The order of names. -/
def ltS (a b : ByteArray) : Bool := ltStr a.toList b.toList
theorem ltS_irrefl (a : ByteArray) : ltS a a = false := swo_ltStr.irrefl _
theorem ltS_trans {a b c : ByteArray} (h : ltS a b = true) (k : ltS b c = true) : ltS a c = true := swo_ltStr.trans _ _ _ h k
theorem toList_inj {a b : ByteArray} (h : a.toList = b.toList) : a = b := by
  rw [Lib.toList_data, Lib.toList_data] at h
  exact ByteArray.ext (Array.toList_inj.1 h)
theorem ltS_total {a b : ByteArray} (h : ltS a b = false) (k : ltS b a = false) : a = b := by
  unfold ltS ltStr at h k
  have h := of_decide_eq_false h
  have k := of_decide_eq_false k
  exact toList_inj (List.le_antisymm (List.not_lt.1 k) (List.not_lt.1 h))
theorem ltS_asymm {a b : ByteArray} (h : ltS a b = true) : ltS b a = false := by
  cases k : ltS b a with
  | false => rfl
  | true => have := ltS_trans h k; rw [ltS_irrefl] at this; cases this
def cmpS (a b : ByteArray) : Int := if ltS a b = true then -1 else if a = b then 0 else 1
theorem cmpS_lt (a b : ByteArray) : cmpS a b < 0 ↔ ltS a b = true := by
  unfold cmpS
  split
  · simp_all
  · split <;> simp_all
def cmpTh (x y : Th) : Int := cmpS x.name y.name
theorem ltTh (x y : Th) : ltOf cmpTh x y = ltS x.name y.name := by
  unfold ltOf cmpTh
  rw [show (decide (cmpS x.name y.name < 0)) = decide (ltS x.name y.name = true) from decide_eq_decide.2 (cmpS_lt _ _)]
  simp
theorem swoTh : SWO (ltOf cmpTh) where
  irrefl x := by rw [ltTh]; exact ltS_irrefl _
  trans x y z h1 h2 := by rw [ltTh] at *; exact ltS_trans h1 h2
  ntrans x y z h1 h2 := by rw [ltTh] at *; exact swo_ltStr.ntrans _ _ _ h1 h2
set_option maxHeartbeats 400000 in
theorem isNaNs_any (a : ByteArray) (w : World) :
    Calls Try.prog 62 #[.string a] w fun e w' => e = .returned (.bool false) ∧ w = w' := by
  go_enter Try.func62, Try.ntmps62
  go_wp2
  go_ret
  exact ⟨by simp, rfl⟩
set_option maxHeartbeats 400000 in
theorem cmpS_any (a b : ByteArray) (w : World) :
    Calls Try.prog 56 #[.string a, .string b] w fun e w' => e = .returned (.int .i64 (cmpS a b)) ∧ w = w' := by
  cases h1 : ltS a b with
  | true =>
    have hc : cmpS a b = -1 := by unfold cmpS; rw [if_pos h1]
    have h1 : Op.bytesLess a.toList b.toList = true := (less_eq _ _).trans h1
    rw [hc]
    clear hc
    go_enter Try.func56, Try.ntmps56
    go_wp2_with (go_at_call 62; refine (isNaNs_any _ _).mono ?_; rintro e w' ⟨rfl, rfl⟩)
    go_ret
    exact ⟨rfl, rfl⟩
  | false =>
    by_cases h2 : a = b
    · have hc : cmpS a b = 0 := by unfold cmpS; rw [if_neg (by simp [h1]), if_pos h2]
      have h1 : Op.bytesLess a.toList b.toList = false := (less_eq _ _).trans h1
      have h3 : (a.toList == b.toList) = true := by rw [h2]; simp
      rw [hc]
      clear hc h2
      go_enter Try.func56, Try.ntmps56
      go_wp2_with (go_at_call 62; refine (isNaNs_any _ _).mono ?_; rintro e w' ⟨rfl, rfl⟩)
      go_ret
      exact ⟨rfl, rfl⟩
    · have hc : cmpS a b = 1 := by unfold cmpS; rw [if_neg (by simp [h1]), if_neg h2]
      have h1 : Op.bytesLess a.toList b.toList = false := (less_eq _ _).trans h1
      have h3 : (a.toList == b.toList) = false := by
        cases h4 : a.toList == b.toList with
        | false => rfl
        | true => exact absurd (toList_inj (beq_iff_eq.1 h4)) h2
      rw [hc]
      clear hc h2
      go_enter Try.func56, Try.ntmps56
      go_wp2_with (go_at_call 62; refine (isNaNs_any _ _).mono ?_; rintro e w' ⟨rfl, rfl⟩)
      go_ret
      exact ⟨rfl, rfl⟩
set_option maxHeartbeats 400000 in
theorem all1_any (x y : Th) (w : World) :
    Calls Try.prog 55 #[.agg (Th.cells x).toArray, .agg (Th.cells y).toArray] w fun e w' => e = .returned (.int .i64 (cmpTh x y)) ∧ ∃ q os', w' = grow (w.drewN q) os' := by
  unfold cmpTh Th.cells
  go_enter Try.func55, Try.ntmps55
  go_wp2_with (go_at_call 56; refine (cmpS_any _ _ _).mono ?_; rintro e w' ⟨rfl, rfl⟩)
  go_ret
  exact ⟨rfl, 0, _, by rw [alloc_eq_grow, alloc_eq_grow, grow_grow]; rfl⟩
theorem en_all1 : ∀ args w, (callFunc 55 args).run Try.prog w = .ok (.enter 55 args) w := enters_of Try.func55 (by kernel_rfl) rfl
set_option maxRecDepth 100000 in
set_option maxHeartbeats 400000 in
/-- slices.SortFunc on a slice of the call's own. -/
theorem sortFunc_th (cf : Th → Th → Int) (hO : SWO (ltOf cf)) (g : Nat) (cb : Array Value) (eg : ∀ args w, (callFunc g args).run Try.prog w = .ok (.enter g args) w) (base : Nat) (v : Value) (xs : List Th) (w : World)
    (hrow : w.ownsRow base 35 4 v xs.length (xs.flatMap Th.cells)) (hb0 : base ≤ w.heap.size) (hlen : xs.length ≤ 1000000000)
    (hcmp : ∀ W, Below base w W → ∀ x y, Calls Try.prog g (#[.agg (Th.cells x).toArray, .agg (Th.cells y).toArray] ++ cb) W fun e w' => e = .returned (.int .i64 (cf x y)) ∧ ∃ q os', w' = grow (W.drewN q) os') :
    Calls Try.prog 54 #[v, .func (.func g) #[] cb] w fun e w' => e = .returned (.tuple #[]) ∧ (∃ ys, ys.Perm xs ∧ SortedBy cf ys ∧ w'.ownsRow base 35 4 v ys.length (ys.flatMap Th.cells)) ∧ Below base w w' := by
  have hk : ∀ x : Th, (Th.cells x).length = 4 := fun _ => rfl
  have h1 : ∀ x : Th, ∀ v ∈ Th.cells x, v.oneCell' = true := fun x v hv => by simp [Th.cells] at hv; rcases hv with rfl | rfl | rfl | rfl <;> rfl
  have hrow0 := hrow
  rcases hrow.2 with ⟨rfl, hn⟩ | ⟨g', cap, cur, rfl, hbase, hb, h2, h3, h4, h5⟩
  · obtain rfl : xs = [] := List.eq_nil_of_length_eq_zero hn
    have hc := AnyF.slices_SortFunc_none (P := Try.prog) { Try.sortTh with } none 0 (.func (.func g) #[] cb) w
    change Calls Try.prog 54 _ _ _ at hc
    refine hc.mono ?_
    rintro e w' ⟨rfl, rfl⟩
    exact ⟨rfl, ⟨[], List.Perm.refl _, List.Pairwise.nil, hrow0⟩, Below.refl _ _⟩
  · have hg : g' < w.heap.size := (Array.getElem?_eq_some_iff.1 hb).1
    have hgb : ∀ (m : Nat) (os : Array Obj) (d : Array Th), Below base w (sortWorldK Th.cells 4 w g' 0 m d os) := fun m os d =>
      (Below.refl base w).grown (grownBy_sortedK d) hb0 (fun k e => by cases e; exact hbase)
    have hc := AnyQ.slices_SortFunc (P := Try.prog) Try.sortTh 4 Try.isAgg35 Try.sizeOf35 Th.cells hk h1 cf hO g cb g' 0 cap xs.toArray w eg (fun m os dk _ x y => hcmp _ (hgb m os dk) x y) (holdsK_of hk hb h5) hg (by simp; omega)
    change Calls Try.prog 54 _ _ _ at hc
    simp only [List.size_toArray] at hc
    refine hc.mono ?_
    rintro e w' ⟨rfl, d', n, os, hp, hs, rfl⟩
    have hp' : PermIn 0 xs.toArray.size xs.toArray d' := by simpa using hp
    have hpm := perm_of hp'
    have hsz : d'.size = xs.length := by have := hp'.1; simpa using this
    have hs' : SortedIn (ltOf cf) 0 d'.size d' := by rw [hsz]; exact hs
    have hl : d'.toList.length = xs.length := by simpa using hsz
    refine ⟨rfl, ⟨d'.toList, by simpa using hpm, sortedBy_of hs', ?_⟩, hgb n os d'⟩
    have := ownsRow_sortedK (w := w) (n := n) (os := os) (ys := d'.toList) hk hbase hb (by omega) h3 h4
    rw [show d'.toList.toArray = d' from by simp] at this
    rw [← hl]
    exact this

end Go.Proofs.Ytojeombljhmkaaa
