/- Curve: lower. -/
import Derived.Test.YtmkjiflliejjjaaCurC
import Derived.WalkMore
namespace Go.Proofs.Ytmkjiflliejjjaa
open Go.RowKit Go.Shelf Go.Sort
set_option linter.unusedVariables false
set_option linter.unusedSimpArgs false
/-- In the order of sorts. -/
theorem le_of_sorted {ys : List Ln} (h : SortedBy cmpLn ys) : ys.Pairwise leLn := by
  unfold SortedBy at h
  refine h.imp ?_
  intro x y hxy
  have h1 : ltOf cmpLn y x = false := by unfold ltOf; simpa using hxy
  rw [ltLn] at h1
  simp only [decide_eq_false_iff_not] at h1
  unfold leLn
  omega
set_option maxHeartbeats 400000 in
theorem ordered_any (v : Value) (ls : List Ln) (w : World) (h : SAt Ln.cells 2 w v ls) (hlen : ls.length ≤ 1000000) :
    Calls Try.prog 48 #[v, .func (.func 49) #[] #[]] w fun e w' => (∃ v' ys, e = .returned v' ∧ ys.Perm ls ∧ ys.Pairwise leLn ∧ SAt Ln.cells 2 w' v' ys) ∧ Below w.heap.size w w' := by
  obtain ⟨A, c, rfl⟩ := h.slice
  have hv := values_stops 8 (by omega) w.heap.size (.slice A ls.length c) ls (w.alloc (.cells #[.slice A ls.length c] 22)) (by go_simp) (h.below (bl_alloc (Below.refl _ _) _))
  have hso := sortedFunc_ln cmpLn swoLn 49 #[] enc_lower1 72 #[.pointer (some ⟨w.heap.size, 0, none⟩)] (enters_of Try.func72 (by kernel_rfl) rfl)
    (fun ys => ys = ls) (fun pre => pre <+: ls) ls.length (w.alloc (.cells #[.slice A ls.length c] 22)) (by omega) (fun xs hx => by subst hx; omega) hv
    (fun W _ x y => (lower1_any x y W).mono fun e w' ⟨he, hg⟩ => ⟨he, hg⟩)
  clear hv h
  go_enter Try.func48, Try.ntmps48
  go_wp2_with (first | (go_at_call 62; refine (values_ln _ _ _ _).mono ?_; rintro e w' ⟨rfl, rfl⟩) | (go_at_call 61; refine hso.mono ?_; rintro e w2 ⟨⟨v', xs, ys, rfl, hxs, hp, hsb, hrow⟩, hb⟩; have HP := Lib.hid (hxs ▸ hp); have HSB := Lib.hid hsb; have HR := Lib.hid hrow; have HB := Lib.hid hb; clear hxs hp hsb hrow hb))
  go_ret
  exact ⟨⟨_, _, rfl, HP.out, le_of_sorted HSB.out, SAt.ofOwn (enc := Ln.cells) (fun _ => rfl) rfl HR.out⟩, bl_then (bl_alloc (Below.refl _ _) _) HB.out⟩
theorem elCv : ElT Try.prog 24 39 2 16 (.agg #[.int .i64 0, .int .i64 0]) := ElT.mk' Try.underlying24 (by kernel_rfl) rfl (by decide)
theorem ln_one : ∀ x, ∀ u ∈ Ln.cells x, u.oneCell' = true := fun x u hu => by simp [Ln.cells] at hu; rcases hu with rfl | rfl <;> rfl
theorem run_cut (g n cap j : Nat) (hj : j ≤ cap) (W : World) : (Instr.slice 24 (.slice (some ⟨g, 0, none⟩) n cap) none (some (.int .i64 (j : Int))) none).run Try.prog W = .ok (.slice (some ⟨g, 0, none⟩) j cap) W := by
  have hbd := fun code W => run_bound Try.prog j cap hj code W
  have hsz := fun W => run_sizeOf elCv W
  simp [Instr.slice, run_underlying elCv.ht, Instr.sliceBounds, hsz, Result.andThen, hbd, Addr.add]
theorem own_cut {w : World} {base g n cap j : Nat} {e : TypeId} {k : Nat} {xs : List Value} (h : w.ownsRow base e k (.slice (some ⟨g, 0, none⟩) n cap) n xs) (hj : j ≤ n) : w.ownsRow base e k (.slice (some ⟨g, 0, none⟩) j cap) j (xs.take (j * k)) := by
  obtain ⟨h0, h1⟩ := h
  rcases h1 with ⟨h1, -⟩ | ⟨g', cap', cur, h1, h2, h3, h4, h5, h6, h7⟩
  · cases h1
  · simp only [Value.slice.injEq, Option.some.injEq, Addr.mk.injEq, and_true, true_and] at h1
    obtain ⟨rfl, rfl⟩ := h1
    have hjk : j * k ≤ n * k := Nat.mul_le_mul_right k hj
    refine ⟨by rw [List.length_take, h0]; omega, .inr ⟨g, cap, cur, rfl, h2, h3, by omega, h5, h6, ?_⟩⟩
    rw [← h7, List.take_take, Nat.min_eq_left hjk]
theorem own_lies {w w' : World} {base : Nat} {e : TypeId} {k n : Nat} {v : Value} {cs : List Value} (h : w.ownsRow base e k v n cs) (hb : Below w.heap.size w w') : w'.ownsRow base e k v n cs :=
  h.kept (row := none) ⟨hb.os, hb.tape, hb.output, hb.size, fun j hj _ => hb.block j hj⟩ (by cases hv : v.ownBlock <;> simp)
theorem own_form {w : World} {base : Nat} {e : TypeId} {k n : Nat} {v : Value} {cs : List Value} (h : w.ownsRow base e k v n cs) : ∃ A c, v = .slice A n c := by
  rcases h.2 with ⟨rfl, rfl⟩ | ⟨g, cap, cur, rfl, _⟩
  · exact ⟨_, _, rfl⟩
  · exact ⟨_, _, rfl⟩
theorem own_blk {w : World} {base : Nat} {e : TypeId} {k n : Nat} {v : Value} {cs : List Value} (h : w.ownsRow base e k v n cs) (hn : 0 < n) : ∃ g c, v = .slice (some ⟨g, 0, none⟩) n c ∧ n ≤ c ∧ g < w.heap.size := by
  rcases h.2 with ⟨rfl, rfl⟩ | ⟨g, cap, cur, rfl, _, hb, hc, _⟩
  · omega
  · exact ⟨_, _, rfl, hc, (Array.getElem?_eq_some_iff.1 hb).1⟩
theorem sat_oneL (w : World) (x : Ln) {b : Nat} (hb : b = w.heap.size) : SAt Ln.cells 2 (w.alloc (.cells #[.int .i64 x.b, .int .i64 x.r] 39)) (.slice (some ⟨b, 0, none⟩) 1 1) [x] := by
  subst hb
  exact Or.inr ⟨_, 0, 1, rfl, Nat.le_refl _, by simp [maxLen], rowAt_new (enc := Ln.cells) (k := 2) (fun _ => rfl) w 39 [x] rfl rfl⟩
/-- The lines of some, that are the only least ones somewhere, as they come. -/
def IsLow (ls out : List Ln) : Prop := ∃ ys : List Ln, ys.Perm ls ∧ ys.Pairwise leLn ∧ out = (ys.foldl stepL []).reverse
theorem fold_take {ys : List Ln} {k : Nat} {x : Ln} (h : ys[k]? = some x) : (ys.take (k + 1)).foldl stepL [] = stepL ((ys.take k).foldl stepL []) x := by
  rw [← take_snoc' h, List.foldl_append]
  rfl
theorem fold_mem {ys : List Ln} (hs : ys.Pairwise leLn) (k : Nat) : NormR ((ys.take k).foldl stepL []) ∧ ∀ y ∈ (ys.take k).foldl stepL [], y ∈ ys := by
  have := fold_inv (ys.take k) [] [] (by simp) (hs.sublist (List.take_sublist _ _)) trivial (by simp) (fun y hy => by simp at hy)
  exact ⟨this.1, fun y hy => List.mem_of_mem_take (by simpa using this.2.1 y hy)⟩
theorem fold_len : ∀ (ys s : List Ln), (ys.foldl stepL s).length ≤ s.length + ys.length
  | [], s => by simp
  | x :: ys, s => by
    have h1 := fold_len ys (stepL s x)
    have h2 : (stepL s x).length ≤ s.length + 1 := by
      match s with
      | [] => simp [stepL]
      | y :: t =>
        unfold stepL
        simp only
        split
        · simp
        · have := (pop_suffix x (y :: t)).length_le
          simp at this ⊢
          omega
    simp only [List.foldl_cons, List.length_cons]
    omega
end Go.Proofs.Ytmkjiflliejjjaa
