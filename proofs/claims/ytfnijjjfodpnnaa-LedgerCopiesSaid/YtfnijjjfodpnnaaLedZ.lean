/- Ledger: All. -/
import Derived.Test.YtfnijjjfodpnnaaLedW
import Derived.Test.YtfnijjjfodpnnaaLedX
import Derived.Test.YtfnijjjfodpnnaaShelf
namespace Go.Proofs.Ytfnijjjfodpnnaa
open Go.RowKit Go.Shelf Go.Sort
set_option linter.unusedVariables false
set_option linter.unusedSimpArgs false
set_option maxRecDepth 100000 in
set_option maxHeartbeats 400000 in
/-- slices.SortFunc on a slice of the call's own. -/
theorem sortFunc_en (cf : En → En → Int) (hO : SWO (ltOf cf)) (g : Nat) (cb : Array Value) (eg : ∀ args w, (callFunc g args).run Try.prog w = .ok (.enter g args) w) (base : Nat) (v : Value) (xs : List En) (w : World)
    (hrow : w.ownsRow base 30 3 v xs.length (xs.flatMap En.cells)) (hb0 : base ≤ w.heap.size) (hlen : xs.length ≤ 1000000000)
    (hcmp : ∀ W, Below base w W → ∀ x y, Calls Try.prog g (#[.agg (En.cells x).toArray, .agg (En.cells y).toArray] ++ cb) W fun e w' => e = .returned (.int .i64 (cf x y)) ∧ ∃ q os', w' = grow (W.drewN q) os') :
    Calls Try.prog 68 #[v, .func (.func g) #[] cb] w fun e w' => e = .returned (.tuple #[]) ∧ (∃ ys, ys.Perm xs ∧ SortedBy cf ys ∧ w'.ownsRow base 30 3 v ys.length (ys.flatMap En.cells)) ∧ Below base w w' := by
  have hk : ∀ x : En, (En.cells x).length = 3 := fun _ => rfl
  have h1 : ∀ x : En, ∀ v ∈ En.cells x, v.oneCell' = true := fun x v hv => by simp [En.cells] at hv; rcases hv with rfl | rfl | rfl <;> rfl
  have hrow0 := hrow
  rcases hrow.2 with ⟨rfl, hn⟩ | ⟨g', cap, cur, rfl, hbase, hb, h2, h3, h4, h5⟩
  · obtain rfl : xs = [] := List.eq_nil_of_length_eq_zero hn
    have hc := AnyF.slices_SortFunc_none (P := Try.prog) { Try.sortEn with } none 0 (.func (.func g) #[] cb) w
    change Calls Try.prog 68 _ _ _ at hc
    refine hc.mono ?_
    rintro e w' ⟨rfl, rfl⟩
    exact ⟨rfl, ⟨[], List.Perm.refl _, List.Pairwise.nil, hrow0⟩, Below.refl _ _⟩
  · have hg : g' < w.heap.size := (Array.getElem?_eq_some_iff.1 hb).1
    have hgb : ∀ (m : Nat) (os : Array Obj) (d : Array En), Below base w (sortWorldK En.cells 3 w g' 0 m d os) := fun m os d =>
      (Below.refl base w).grown (grownBy_sortedK d) hb0 (fun k e => by cases e; exact hbase)
    have hc := AnyQ.slices_SortFunc (P := Try.prog) Try.sortEn 3 Try.isAgg30 Try.sizeOf30 En.cells hk h1 cf hO g cb g' 0 cap xs.toArray w eg (fun m os dk _ x y => hcmp _ (hgb m os dk) x y) (holdsK_of hk hb h5) hg (by simp; omega)
    change Calls Try.prog 68 _ _ _ at hc
    simp only [List.size_toArray] at hc
    refine hc.mono ?_
    rintro e w' ⟨rfl, d', n, os, hp, hs, rfl⟩
    have hp' : PermIn 0 xs.toArray.size xs.toArray d' := by simpa using hp
    have hpm := perm_of hp'
    have hsz : d'.size = xs.length := by have := hp'.1; simpa using this
    have hs' : SortedIn (ltOf cf) 0 d'.size d' := by rw [hsz]; exact hs
    have hl : d'.toList.length = xs.length := by simpa using hsz
    refine ⟨rfl, ⟨d'.toList, by simpa using hpm, sortedBy_of hs', ?_⟩, hgb n os d'⟩
    have := ownsRow_sortedK (w := w) (n := n) (os := os) (ys := d'.toList) hk hbase hb (by omega) h3 h4
    rw [show d'.toList.toArray = d' from by simp] at this
    rw [← hl]
    exact this
set_option maxRecDepth 100000 in
set_option maxHeartbeats 400000 in
/-- slices.SortedFunc. -/
theorem sortedFunc_en (cf : En → En → Int) (hO : SWO (ltOf cf)) (g : Nat) (cb : Array Value) (egc : ∀ args w, (callFunc g args).run Try.prog w = .ok (.enter g args) w) (gf : Nat) (lb : Array Value) (egs : ∀ args w, (callFunc gf args).run Try.prog w = .ok (.enter gf args) w)
    (S Sp : List En → Prop) (N : Nat) (w : World) (hN : N ≤ 1000000000) (hS : ∀ xs, S xs → xs.length ≤ 1000000000)
    (hseq : SeqStopsK Fence.wide 8 Try.prog gf lb (fun x : En => #[.agg (En.cells x).toArray]) KeepsWalks S Sp N w)
    (hcmp : ∀ W, Below w.heap.size w W → ∀ x y, Calls Try.prog g (#[.agg (En.cells x).toArray, .agg (En.cells y).toArray] ++ cb) W fun e w' => e = .returned (.int .i64 (cf x y)) ∧ ∃ q os', w' = grow (W.drewN q) os') :
    Calls Try.prog 47 #[.func (.func gf) #[] lb, .func (.func g) #[] cb] w fun e w' => (∃ v xs ys, e = .returned v ∧ S xs ∧ ys.Perm xs ∧ SortedBy cf ys ∧ w'.ownsRow w.heap.size 30 3 v ys.length (ys.flatMap En.cells)) ∧ Below w.heap.size w w' := by
  have hcol := callsIn_wide.1 (collect_en Fence.wide 10 trivial trivial rfl (by omega) gf lb trivial egs S Sp N w (by omega) hseq)
  have HC := Lib.hid hcmp
  have HO := Lib.hid hO
  clear hcmp hO hseq
  go_enter Try.func47, Try.ntmps47
  go_wp2_with fail
  refine hcol.mono ?_
  rintro e w1 ⟨v, xs, rfl, hSx, hr1, hb1⟩
  have hsf := sortFunc_en cf HO.out g cb egc w.heap.size v xs w1 hr1 hb1.size (hS xs hSx) (fun W hW x y => HC.out W (hb1.trans hW) x y)
  have HB1 := Lib.hid hb1
  have HSX := Lib.hid hSx
  clear hcol hr1 hb1 hSx
  go_wp2_with fail
  refine hsf.mono ?_
  rintro e w2 ⟨rfl, ⟨ys, hp, hs, hr2⟩, hb2⟩
  have HP := Lib.hid hp
  have HSS := Lib.hid hs
  have HR2 := Lib.hid hr2
  have HB2 := Lib.hid hb2
  clear hsf hp hs hr2 hb2
  go_wp2_with fail
  go_ret
  exact ⟨⟨v, xs, ys, rfl, HSX.out, HP.out, HSS.out, HR2.out⟩, HB1.out.trans HB2.out⟩

set_option maxHeartbeats 400000 in
theorem values_any (r : Nat) (w : World) :
    Calls Try.prog 48 #[.map (some r)] w fun e w' => e = .returned (.func (.func 69) #[] #[.pointer (some ⟨w.heap.size, 0, none⟩)]) ∧ w' = w.alloc (.cells #[.map (some r)] 62) := by
  go_enter Try.func48, Try.ntmps48
  go_wp2
  go_ret
  exact ⟨rfl, rfl⟩
set_option maxRecDepth 100000 in
set_option maxHeartbeats 1000000 in
theorem all_led (p r : Nat) (share room : Int) (es : List En) (gs : List Ling) (w : World) (h : LedgerAt w p r share room es gs) (hl : es.length ≤ 1000) :
    Calls Try.prog 20 #[.pointer (some ⟨p, 0, none⟩)] w fun e w' => (∃ v ys, e = .returned v ∧ ys.Perm es ∧ SortedBy cmpEn ys ∧ SAt En.cells 3 w' v ys) ∧ Below w.heap.size w w' := by
  obtain ⟨v, c0, c1, c2, c3, hs, hm⟩ := h.cells
  have hpl := h.lt.1
  have HC2 := Lib.hid c2
  have HM := Lib.hid hm
  clear h hs hm c0 c1 c3
  go_enter Try.func20, Try.ntmps20
  go_wp2_with (first | (go_at_call 32; refine (none_no p r _ HC2.out).mono ?_; rintro e w' ⟨rfl, rfl⟩) | (go_at_call 48; refine (values_any r _).mono ?_; rintro e w' ⟨rfl, rfl⟩))
  have hb2 := bl_alloc (bl_alloc (Below.refl w.heap.size w) (.cells #[.func (.func 46) #[] #[]] 89)) (.cells #[.map (some r)] 62)
  have hbox : ((w.alloc (.cells #[.func (.func 46) #[] #[]] 89)).alloc (.cells #[.map (some r)] 62)).cell? ⟨w.heap.size, 0, none⟩ = some (.func (.func 46) #[] #[]) := by go_simp
  have hbm : ((w.alloc (.cells #[.func (.func 46) #[] #[]] 89)).alloc (.cells #[.map (some r)] 62)).cell? ⟨w.heap.size + 1, 0, none⟩ = some (.map (some r)) := by go_simp
  refine (sortedFunc_en cmpEn swoEn 49 #[.pointer (some ⟨w.heap.size, 0, none⟩)] (enters_of Try.func49 (by kernel_rfl) rfl) 69 #[.pointer (some ⟨w.heap.size + 1, 0, none⟩)] (enters_of Try.func69 (by kernel_rfl) rfl)
    (fun ps => ps.Perm es) (fun pre => ∃ rest, (pre ++ rest).Perm es) es.length _ (by omega) (fun xs hxs => by rw [hxs.length_eq]; omega)
    (values_stops Fence.wide 8 trivial rfl (by omega) (w.heap.size + 1) r es _ hbm (HM.out.below hb2)) (fun W hW x y => all1_any x y w.heap.size W (by have := hW.size; simp at this; omega) (bl_cell hW hbox))).mono ?_
  rintro e w3 ⟨⟨v3, xs, ys, rfl, hpx, hpy, hso, hown⟩, hb3⟩
  have hsat : SAt En.cells 3 w3 v3 ys := SAt.ofOwn (enc := En.cells) (k := 3) (fun _ => rfl) rfl hown
  have HSAT := Lib.hid hsat
  have HSO := Lib.hid hso
  have HPY := Lib.hid (hpy.trans hpx)
  have HBF : Hid (Below w.heap.size w w3) := Lib.hid (hb2.trans (hb3.mono (by simp; omega)))
  obtain ⟨A3, c3', rfl⟩ := hsat.slice
  clear hsat hso hpy hpx hown hb3 hb2 hbox hbm
  go_wp2_with fail
  go_ret
  exact ⟨⟨_, ys, rfl, HPY.out, HSO.out, HSAT.out⟩, HBF.out⟩
end Go.Proofs.Ytfnijjjfodpnnaa
