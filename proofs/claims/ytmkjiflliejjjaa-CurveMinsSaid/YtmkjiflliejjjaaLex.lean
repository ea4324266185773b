/- A region that draws its order, of many operations: the Bool that its order in the text is one of its orders, reckoned pair by pair (the kit's own reckons a list of flags anew for each operation: too much for the kernel from some 60 operations on). Over any program. -/
import Derived.Test.YtmkjiflliejjjaaLib
import Derived.Deep.QuietTactic
namespace Go.Proofs.Ytmkjiflliejjjaa
open Go.RowKit
set_option linter.unusedVariables false
def lexOkL (md : Region.Mode) (ops : Array Oper) : Nat → List Oper → Bool
  | _, [] => true
  | i, o :: rest => o.after.all (fun e => !Region.binds md e || decide (e.on < i)) && rest.all (fun oj => oj.after.any (fun e => Region.binds md e && e.on == i) || o.apart ops oj) && lexOkL md ops (i + 1) rest
theorem lexFrom_of {md : Region.Mode} {ops : Array Oper} : ∀ (l : List Oper) (k : Nat) (listed : Array Bool), (∀ j, l[j]? = ops[k + j]?) → k + l.length = ops.size → listed.size = ops.size → (∀ j, j < ops.size → listed[j]? = some (decide (j < k))) →
    lexOkL md ops k l = true → Region.lexFrom md ops l.length k listed = true
  | [], k, listed, hl, hsz, hls, hL, h => by
    simp only [List.length_nil, Region.lexFrom, List.isEmpty_iff, Region.ready, List.filter_eq_nil_iff, List.mem_range]
    intro i hi
    have := hL i hi
    simp only [List.length_nil] at hsz
    simp [Array.getD_eq_getD_getElem?, this, show i < k by omega]
  | o :: rest, k, listed, hl, hsz, hls, hL, h => by
    have h0 : ops[k]? = some o := by simpa using (hl 0).symm
    have hk : k < ops.size := (Array.getElem?_eq_some_iff.1 h0).1
    simp only [lexOkL, Bool.and_eq_true] at h
    obtain ⟨⟨h1, h2⟩, h3⟩ := h
    simp only [List.length_cons, Region.lexFrom, Bool.and_eq_true]
    refine ⟨⟨?_, ?_⟩, ?_⟩
    · simp only [List.contains_eq_mem, decide_eq_true_eq, Region.ready, List.mem_filter, List.mem_range, Bool.and_eq_true]
      refine ⟨hk, ?_, ?_⟩
      · simp [Array.getD_eq_getD_getElem?, hL k hk]
      · rw [h0]
        simp only [Option.map_some, Option.getD_some]
        rw [Array.all_eq_true_iff_forall_mem] at h1 ⊢
        intro e he
        have := h1 e he
        simp only [Bool.or_eq_true, Bool.not_eq_true', decide_eq_true_eq] at this ⊢
        rcases this with h | h
        · exact .inl h
        · refine .inr ?_
          simp [Array.getD_eq_getD_getElem?, hL e.on (by omega), h]
    · unfold Region.free
      rw [h0]
      simp only [List.all_eq_true, List.mem_range, Bool.or_eq_true, beq_iff_eq]
      intro j hj
      by_cases hjk : j = k
      · exact .inl (.inl hjk)
      · by_cases hlt : j < k
        · exact .inl (.inr (by simp [Array.getD_eq_getD_getElem?, hL j hj, hlt]))
        · refine .inr ?_
          obtain ⟨oj, hoj⟩ : ∃ oj, ops[j]? = some oj := ⟨_, Array.getElem?_eq_getElem hj⟩
          rw [hoj]
          simp only
          have hm : oj ∈ rest := List.mem_of_getElem? (i := j - k - 1) (by have := hl (j - k - 1 + 1); rw [show k + (j - k - 1 + 1) = j by omega, hoj] at this; simpa using this)
          simpa using List.all_eq_true.1 h2 oj hm
    · refine lexFrom_of rest (k + 1) _ (fun j => by have := hl (j + 1); simpa [Nat.add_assoc, Nat.add_comm 1 j] using this) (by simp at hsz; omega) (by simpa using hls) (fun j hj => ?_) h3
      rw [Array.getElem?_setIfInBounds]
      by_cases hjk : k = j
      · subst hjk; simp [hls, hk]
      · rw [if_neg hjk, hL j hj]
        congr 1
        have : (j < k) ↔ (j < k + 1) := by omega
        simp [this]
theorem lexB_of {md : Region.Mode} {l : List Oper} (hs : Region.noSelect l.toArray = true) (h : lexOkL md l.toArray 0 l = true) : Region.lexB md l.toArray = true := by
  unfold Region.lexB
  rw [hs, Bool.true_and]
  refine lexFrom_of l 0 _ (by simp) (by simp) (by simp) (fun j hj => ?_) h
  simp at hj
  simp [hj]
end Go.Proofs.Ytmkjiflliejjjaa
