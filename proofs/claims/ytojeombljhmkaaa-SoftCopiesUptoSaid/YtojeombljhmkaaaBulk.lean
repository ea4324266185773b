/- How long a slice of flat ones is where the statement bounds the bulk of what it reads. -/
import Derived.Test.YtojeombljhmkaaaOpen
namespace Go.Proofs.Ytojeombljhmkaaa
open Go.ChangeShapes Go.WideShapes Go.ChangeAt Go.RowKit Go.Deep
theorem bulk_pos {H : Type} (d : DataW H) : 1 ≤ Rows.uptoBulk d := by
  cases d with
  | lit l => cases l <;> simp [Rows.uptoBulk]
  | _ => simp [Rows.uptoBulk]
theorem bulk_len {H : Type} : ∀ l : List (DataW H), l.length ≤ Rows.uptoBulkAll l
  | [] => by simp [Rows.uptoBulkAll]
  | x :: r => by
    have h1 := bulk_pos x
    have h2 := bulk_len r
    simp only [Rows.uptoBulkAll, List.length_cons]
    omega
theorem bulk_of {H : Type} {l : List (DataW H)} (h : Rows.uptoSmall H l = true) : Rows.uptoBulkAll l ≤ 1048576 := of_decide_eq_true h
section
variable {H : Type} {enc : TypeId × Value → H} {P : Program} {w : World} {base : Nat} {spare : Nat → Bool} {held : Bool}
theorem flats_bulk {α : Type} {en : α → List Value} {k : Nat} {t e : TypeId} {v : Value} {d : DataW H} {p : List MemPlace} {xs : List α} (ht : P.underlying t = some (.slice e))
    (h : DataW.Trod enc P w base spare held t v d p) (hs : SAt en k w v xs) : xs.length ≤ Rows.uptoBulk d := by
  obtain ⟨fuel, h⟩ := h
  rcases hs with ⟨_, rfl⟩ | ⟨b, o, c, rfl, _, _, _⟩
  · simp
  · rcases open_slice ht h with ⟨h0, _⟩ | ⟨a, len', cap', m, n', D, Pl, h0, _, hl, hcm, hm, hx, hi⟩
    · simp [Value.cells] at h0
    · simp [Value.cells] at h0
      obtain ⟨_, hlen, _⟩ := h0
      injection hx with hx _
      subst hx
      have h2 := bulk_len ((List.range len').map D)
      simp only [List.length_map, List.length_range] at h2
      simp only [Rows.uptoBulk]
      omega
end
end Go.Proofs.Ytojeombljhmkaaa
