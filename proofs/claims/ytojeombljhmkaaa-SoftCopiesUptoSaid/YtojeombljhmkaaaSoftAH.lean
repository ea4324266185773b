/- Soft: slices.symMergeCmpFunc, whole; slices.insertionSortCmpFunc on a part of a row; chunks (plain). -/
import Derived.Test.YtojeombljhmkaaaSoftAG
import Derived.Shelf.SlSortCmp.PdqK
namespace Go.Proofs.Ytojeombljhmkaaa
open Go.RowKit Go.Shelf Go.Sort
set_option linter.unusedVariables false
set_option linter.unusedSimpArgs false
attribute [local go_sem] Oper.semAt_some
theorem merge_is : ∀ sz, MergeIs sz
  | 0 => fun base g cap N a m b Pre X Y Post w hr hb0 hX hY hsz => absurd hsz (by omega)
  | sz + 1 => fun base g cap N a m b Pre X Y Post w hr hb0 hX hY hsz hsX hsY hnm hN hlen ha hm hb => by
    by_cases h1 : X.length = 1
    · obtain ⟨x, rfl⟩ := List.length_eq_one_iff.1 h1
      exact merge_first base g cap N a m b Pre Y Post x w hr hb0 hY hsY (fun y hy => hnm x (by simp) y hy) hN hlen ha (by simpa using hm) hb
    · by_cases h2 : Y.length = 1
      · obtain ⟨y, rfl⟩ := List.length_eq_one_iff.1 h2
        exact merge_last base g cap N a m b Pre X Post y w hr hb0 (by omega) hsX (fun x hx => hnm x hx y (by simp)) hN hlen ha hm (by simpa using hb)
      · exact merge_step sz (merge_is sz) base g cap N a m b Pre X Y Post w hr hb0 (by omega) (by omega) hsz hsX hsY hnm hN hlen ha hm hb
theorem ins_row (base g cap N a b : Nat) (Pre X Post : List Th) (w : World) (hr : RowS base g cap (Pre ++ (X ++ Post)) w) (hb0 : base ≤ w.heap.size) (hX : ByName X) (hN : (Pre ++ (X ++ Post)).length = N) (hlen : N ≤ 1000000) (ha : Pre.length = a) (hb : a + X.length = b) :
    Calls Try.prog 58 #[.slice (some ⟨g, 0, none⟩) N cap, .int .i64 (a : Int), .int .i64 (b : Int), .func (.func 35) #[] #[]] w fun e w' =>
      e = .returned (.tuple #[]) ∧ (∃ Z, Z.Perm X ∧ ByL Z ∧ RowS base g cap (Pre ++ (Z ++ Post)) w') ∧ Below base w w' := by
  obtain ⟨hbg, cur, h1, h2, h3, h4, h5⟩ := hr.blk
  have hk : ∀ x : Th, (Th.cells x).length = 4 := fun _ => rfl
  have hg : g < w.heap.size := hr.lt
  obtain ⟨d, hd⟩ : ∃ d : Array Th, d = (Pre ++ (X ++ Post)).toArray := ⟨_, rfl⟩
  have hdl : d.toList = Pre ++ (X ++ Post) := by rw [hd]
  have hsz : d.size = N := by rw [hd]; simpa using hN
  have hR : RowK Th.cells 4 w g 0 d := ⟨hk, th_one, by rw [hd]; exact holdsK_of hk h1 h5, hg⟩
  have hbN : b ≤ N := by rw [← hN, ← hb, ← ha]; simp only [List.length_append]; omega
  have h := ins_w g cap d d w w a b hR rfl (SWK.start (enc := Th.cells) (k := 4) hR.hH) (by omega) (by omega) (by omega)
  have hget : ∀ i, i < X.length → d[a + i]! = X[i]! := fun i hi => by
    rw [getElem!_pos d (a + i) (by omega), getElem!_pos X i hi]
    have : d.toList[a + i]? = some X[i] := by
      rw [hdl, List.getElem?_append_right (by omega), show a + i - Pre.length = i by omega, List.getElem?_append_left hi]
      exact List.getElem?_eq_getElem hi
    rw [Array.getElem?_toList, Array.getElem?_eq_getElem (by omega)] at this
    exact Option.some.inj this
  have he : insertionSort ltF d a b = insertionSort ltL d a b := ins_eq a b d (by omega) fun i k hi hik hk' => by
    have q1 := hget (i - a) (by omega)
    have q2 := hget (k - a) (by omega)
    rw [show a + (i - a) = i by omega] at q1
    rw [show a + (k - a) = k by omega] at q2
    rw [q1, q2, getElem!_pos X (i - a) (by omega), getElem!_pos X (k - a) (by omega)]
    exact (List.pairwise_iff_getElem.1 hX) (i - a) (k - a) (by omega) (by omega) (by omega)
  rw [he, hsz] at h
  obtain ⟨⟨p1, p2, p3⟩, hs⟩ := insertionSort_holds swoL d a b (by omega) (by omega)
  generalize insertionSort ltL d a b = D at h p1 p2 p3 hs
  have hdx : (d.extract a b).toList = X := by
    rw [Array.toList_extract, hdl, List.extract_eq_take_drop, ← ha, List.drop_left, List.take_left' (by omega)]
  rw [hdx] at p3
  have hDl : D.toList = Pre ++ ((D.extract a b).toList ++ Post) := by
    apply List.ext_getElem?
    intro i
    by_cases hi : i < D.size
    · have hid : i < d.size := by omega
      have hDi : D.toList[i]? = some D[i]! := by rw [Array.getElem?_toList, Array.getElem?_eq_getElem hi, getElem!_pos D i hi]
      have hdi : d.toList[i]? = some d[i]! := by rw [Array.getElem?_toList, Array.getElem?_eq_getElem hid, getElem!_pos d i hid]
      by_cases q1 : i < a
      · rw [hDi, p2 i (.inl q1), ← hdi, hdl, List.getElem?_append_left (by omega), List.getElem?_append_left (by omega)]
      · by_cases q2 : i < b
        · rw [List.getElem?_append_right (by omega), List.getElem?_append_left (by simp; omega), Array.toList_extract, List.extract_eq_take_drop, List.getElem?_take_of_lt (by omega), List.getElem?_drop, show a + (i - Pre.length) = i by omega]
        · rw [hDi, p2 i (.inr (by omega)), ← hdi, hdl, List.getElem?_append_right (by omega), List.getElem?_append_right (by omega), List.getElem?_append_right (by omega), List.getElem?_append_right (by simp; omega)]
          congr 1
          simp
          omega
    · rw [List.getElem?_eq_none (by simpa using hi), List.getElem?_eq_none (by simp only [List.length_append, Array.length_toList, Array.size_extract]; rw [show Post.length = N - b by rw [← hN]; simp only [List.length_append]; omega]; omega)]
  have hZs : ByL (D.extract a b).toList := by
    have hne : (D.extract a b).toList.Pairwise fun u v => u.name ≠ v.name := name_ne hX p3
    refine List.pairwise_iff_getElem.2 ?_
    intro i j hi hj hij
    have h6 := (List.pairwise_iff_getElem.1 hne) i j hi hj hij
    simp only [Array.length_toList, Array.size_extract] at hi hj
    have e1 : (D.extract a b).toList[i] = D[a + i]! := by
      rw [Array.getElem_toList, Array.getElem_extract, getElem!_pos D (a + i) (by omega)]
    have e2 : (D.extract a b).toList[j] = D[a + j]! := by
      rw [Array.getElem_toList, Array.getElem_extract, getElem!_pos D (a + j) (by omega)]
    rw [e1, e2] at h6 ⊢
    have h7 := hs (a + i) (a + j) (by omega) (by omega) (by omega)
    generalize D[a + i]! = u at h6 h7 ⊢
    generalize D[a + j]! = v at h6 h7 ⊢
    cases hn : ltS u.name v.name with
    | true => exact ltL_of h7 hn
    | false =>
      have hn2 : ltS v.name u.name = true := by
        cases hq : ltS v.name u.name with
        | true => rfl
        | false => exact absurd (ltS_total hn hq) h6
      simp only [ltL, Bool.or_eq_false_iff, Bool.and_eq_false_iff, decide_eq_false_iff_not, Bool.or_eq_true, Bool.and_eq_true, decide_eq_true_eq] at h7 ⊢
      rcases h7.2 with k | k
      · exact .inl (by omega)
      · rw [hn2] at k; cases k
  refine h.mono ?_
  rintro e w' ⟨rfl, n, os, rfl⟩
  refine ⟨rfl, ⟨(D.extract a b).toList, p3, hZs, ?_⟩, (Below.refl base w).grown (grownBy_sortedK _) hb0 (fun k e => by cases e; exact hbg)⟩
  rw [← hDl]
  have hDlen : D.toList.length = N := by simpa using p1.trans hsz
  have := ownsRow_sortedK (w := w) (n := n) (os := os) (ys := D.toList) hk hbg h1 (by omega) h3 h4
  rw [show D.toList.toArray = D by simp] at this
  exact this
end Go.Proofs.Ytojeombljhmkaaa
