/- How long a slice that is handed in can be. Over any program. -/
import Derived.Test.YtfnijjjfodpnnaaOpen
import Derived.SizedLaws
namespace Go.Proofs.Ytfnijjjfodpnnaa
open Go.ChangeShapes Go.WideShapes Go.ChangeAt Go.RowKit Go.Deep
section
variable {H : Type} {enc : TypeId × Value → H} {P : Program} {w : World} {base : Nat} {spare : Nat → Bool} {held : Bool}
theorem flats_small {α : Type} {en : α → List Value} {k : Nat} {t e : TypeId} {v : Value} {d : DataW H} {p : List MemPlace} {ts : List TypeId} {ds : List (DataW H)} {j : Nat} {xs : List α} (ht : P.underlying t = some (.slice e))
    (h : DataW.Trod enc P w base spare held t v d p) (hsz : (DataW.weightsEach P ts ds).all (· ≤ reachBytes) = true) (hb : 0 < P.bytesOf e) (hs : SAt en k w v xs) (htj : ts[j]? = some t) (hdj : ds[j]? = some d) : xs.length ≤ 140737488351232 := by
  obtain ⟨fuel, h⟩ := h
  rcases hs with ⟨_, rfl⟩ | ⟨b, o, c, rfl, _, _, _⟩
  · simp
  · rcases open_slice ht h with ⟨h0, _⟩ | ⟨a, len', cap', m, n', D, Pl, h0, _, hl, hcm, hm, hx, hi⟩
    · simp [Value.cells] at h0
    · simp [Value.cells] at h0
      obtain ⟨_, hlen, _⟩ := h0
      injection hx with hx _
      have := sized_slice hsz htj (hx ▸ hdj) ht
      simp only [List.length_map, List.length_range] at this
      have h2 : len' ≤ reachBytes := Nat.le_trans (Nat.le_trans (by omega) (Nat.le_mul_of_pos_right (len' + (m - len')) hb)) this
      unfold reachBytes at h2
      omega
end
end Go.Proofs.Ytfnijjjfodpnnaa
