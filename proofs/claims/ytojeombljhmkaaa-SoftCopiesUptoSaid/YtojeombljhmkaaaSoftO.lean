/- Soft: slices.SortStableFunc, of things by names, told in one order. -/
import Derived.Test.YtojeombljhmkaaaSoftN
namespace Go.Proofs.Ytojeombljhmkaaa
open Go.RowKit Go.Shelf Go.Sort
set_option linter.unusedVariables false
set_option linter.unusedSimpArgs false
attribute [local go_sem] Oper.semAt_some
abbrev ByName (xs : List Th) : Prop := xs.Pairwise fun a b => ltS a.name b.name = true
/-- Those things in the order in which they are forgotten. -/
def IsF (ys xs : List Th) : Prop := ys.Perm xs ∧ ys.Pairwise fun a b => ltL a b = true
/-- The sort, of at most so many things. -/
def Stable (N : Nat) : Prop := ∀ (base : Nat) (v : Value) (xs : List Th) (w : World), w.ownsRow base 35 4 v xs.length (xs.flatMap Th.cells) → base ≤ w.heap.size → xs.length ≤ N → ByName xs →
  Calls Try.prog 34 #[v, .func (.func 35) #[] #[]] w fun e w' => e = .returned (.tuple #[]) ∧ (∃ ys, IsF ys xs ∧ w'.ownsRow base 35 4 v ys.length (ys.flatMap Th.cells)) ∧ Below base w w'
theorem name_ne {xs ys : List Th} (hx : ByName xs) (hp : ys.Perm xs) : ys.Pairwise fun a b => a.name ≠ b.name := by
  have h1 : xs.Pairwise fun a b => a.name ≠ b.name := hx.imp fun {a b} h e => by rw [e, ltS_irrefl] at h; cases h
  exact (hp.pairwise_iff (fun {a b} h => Ne.symm h)).2 h1
theorem isF_of {xs : List Th} {d : Array Th} (hx : ByName xs) (hp : d.toList.Perm xs) (hs : SortedIn ltL 0 d.size d) : IsF d.toList xs := by
  refine ⟨hp, ?_⟩
  have hne := name_ne hx hp
  rw [List.pairwise_iff_getElem] at hne ⊢
  intro i j hi hj hij
  have hi' : i < d.size := by simpa using hi
  have hj' : j < d.size := by simpa using hj
  have h1 := hs i j (Nat.zero_le _) hij hj'
  rw [getElem!_pos d i hi', getElem!_pos d j hj'] at h1
  have h2 := hne i j hi hj hij
  simp only [Array.getElem_toList] at h2 ⊢
  simp only [ltL, Bool.or_eq_false_iff, Bool.and_eq_false_iff, decide_eq_false_iff_not, Bool.or_eq_true, Bool.and_eq_true, decide_eq_true_eq] at h1 ⊢
  by_cases h3 : d[i].forgot < d[j].forgot
  · exact .inl h3
  · have h4 : d[i].forgot = d[j].forgot := by omega
    refine .inr ⟨h4, ?_⟩
    rcases h1.2 with h5 | h5
    · exact absurd h4.symm h5
    · cases h6 : ltS d[i].name d[j].name with
      | true => rfl
      | false => exact absurd (ltS_total h6 h5) h2
set_option maxRecDepth 100000 in
set_option maxHeartbeats 400000 in
theorem stable_of (N : Nat) (hN : N ≤ 1000000) (F : Array Th → Array Th)
    (hc : ∀ (g' cap : Nat) (d0 : Array Th) (w0 : World), RowK Th.cells 4 w0 g' 0 d0 → d0.size ≤ N → Calls Try.prog 49 #[.slice (some ⟨g', 0, none⟩) d0.size cap, .int .i64 d0.size, .func (.func 35) #[] #[]] w0 fun e w' => e = .returned (.tuple #[]) ∧ SWK Th.cells 4 w0 g' 0 (F d0) w')
    (hF : ∀ d : Array Th, d.size ≤ N → ByName d.toList → (F d).size = d.size ∧ (F d).toList.Perm d.toList ∧ SortedIn ltL 0 (F d).size (F d)) : Stable N := by
  intro base v xs w hrow hb0 hlen hx
  rcases hrow.2 with ⟨rfl, hn⟩ | ⟨g', cap, cur, rfl, hbase, hb, h2, h3, h4, h5⟩
  · obtain rfl : xs = [] := List.eq_nil_of_length_eq_zero hn
    refine (stable_nil w).mono ?_
    rintro e w' ⟨rfl, rfl⟩
    exact ⟨rfl, ⟨[], ⟨List.Perm.refl _, List.Pairwise.nil⟩, hrow⟩, Below.refl _ _⟩
  · have hk : ∀ x : Th, (Th.cells x).length = 4 := fun _ => rfl
    have hg : g' < w.heap.size := (Array.getElem?_eq_some_iff.1 hb).1
    have R : RowK Th.cells 4 w g' 0 xs.toArray := ⟨hk, th_one, holdsK_of hk hb h5, hg⟩
    have h := hc g' cap xs.toArray w R (by simpa using hlen)
    obtain ⟨q1, q2, q3⟩ := hF xs.toArray (by simpa using hlen) (by simpa using hx)
    simp only [List.size_toArray] at h q1 q2
    have hz : ((xs.length : Nat) : Int) = (xs.length : Int) := rfl
    have H := Lib.hid h
    obtain ⟨Q, hQ⟩ : ∃ Q : Ending → World → Prop, Q = fun e w' => e = .returned (.tuple #[]) ∧ (∃ ys, IsF ys xs ∧ w'.ownsRow base 35 4 (.slice (some ⟨g', 0, none⟩) xs.length cap) ys.length (ys.flatMap Th.cells)) ∧ Below base w w' := ⟨_, rfl⟩
    rw [← hQ]
    have HQ := Lib.hid hQ
    have HF := Lib.hid (And.intro q1 (And.intro q2 q3))
    have HX := Lib.hid hx
    have HK := Lib.hid hk
    clear hQ h q1 q2 q3 hc hF R hx hk
    go_enter Try.func34, Try.ntmps34
    go_wp2_with (go_at_call 49; refine H.out.mono ?_; rintro e w' ⟨rfl, n, os, rfl⟩)
    go_end0
    rw [HQ.out]
    obtain ⟨q1, q2, q3⟩ := HF.out
    refine ⟨rfl, ⟨(F xs.toArray).toList, isF_of HX.out q2 q3, ?_⟩, (Below.refl base w).grown (grownBy_sortedK _) hb0 (fun k e => by cases e; exact hbase)⟩
    have hl : (F xs.toArray).toList.length = xs.length := by simpa using q1
    have := ownsRow_sortedK (w := w) (n := n) (os := os) (ys := (F xs.toArray).toList) HK.out hbase hb (by omega) h3 h4
    rw [show (F xs.toArray).toList.toArray = F xs.toArray by simp] at this
    rw [← hl]
    exact this
theorem stable20 : Stable 20 := by
  refine stable_of 20 (by omega) (fun d => insertionSort ltF d 0 d.size) (fun g' cap d0 w0 R h => stable_c20 g' cap d0 w0 R h) fun d hd hx => ?_
  have he : insertionSort ltF d 0 d.size = insertionSort ltL d 0 d.size := ins_eq 0 d.size d (Nat.le_refl _) fun i k _ hik hk => by
    rw [getElem!_pos d i (by omega), getElem!_pos d k hk]
    have := (List.pairwise_iff_getElem.1 hx) i k (by simp; omega) (by simpa using hk) hik
    simpa using this
  simp only [he]
  obtain ⟨h1, h2⟩ := insertionSort_holds swoL d 0 d.size (by omega) (Nat.le_refl _)
  refine ⟨h1.1, ?_, by rw [h1.1]; exact h2⟩
  have h3 := h1.2.2
  have e1 : ((insertionSort ltL d 0 d.size).extract 0 d.size).toList = (insertionSort ltL d 0 d.size).toList := by
    have hz := h1.1
    generalize insertionSort ltL d 0 d.size = D at hz
    rw [← hz]; simp
  rw [e1] at h3
  simpa using h3
theorem isF_eq {a b xs : List Th} (ha : IsF a xs) (hb : IsF b xs) : a = b := by
  obtain ⟨p1, s1⟩ := ha
  obtain ⟨p2, s2⟩ := hb
  have hp := p1.trans p2.symm
  clear p1 p2
  induction a generalizing b with
  | nil => exact (List.nil_perm.1 hp).symm
  | cons x l ih =>
    cases b with
    | nil => exact absurd hp.length_eq (by simp)
    | cons y m =>
      simp only [List.pairwise_cons] at s1 s2
      have hxy : x = y := by
        rcases List.mem_cons.1 (hp.mem_iff.1 (List.mem_cons_self (a := x) (l := l))) with h | h
        · exact h
        · rcases List.mem_cons.1 (hp.mem_iff.2 (List.mem_cons_self (a := y) (l := m))) with k | k
          · exact k.symm
          · have := swoL.trans _ _ _ (s2.1 x h) (s1.1 y k)
            rw [swoL.irrefl] at this
            cases this
      subst hxy
      rw [ih s1.2 s2.2 (List.Perm.cons_inv hp)]
end Go.Proofs.Ytojeombljhmkaaa
