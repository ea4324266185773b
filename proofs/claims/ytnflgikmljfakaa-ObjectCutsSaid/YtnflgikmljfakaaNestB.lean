/- Arguments that are slices of structs, in which slices of plain types lie. Over any program. -/
import Derived.Test.YtnflgikmljfakaaNest
namespace Go.Proofs.Ytnflgikmljfakaa
open Go.RowKit Go.ChangeShapes Go.WideShapes Go.Deep
set_option linter.unusedVariables false
inductive SK where
  | ck (c : CK)
  | sl (ks : List CK)
def SK.is (w : World) : SK → Value → Prop
  | .ck c, v => c.is v
  | .sl ks, v => ∃ xs : List (List Value), (∀ c ∈ xs, CKs ks c) ∧ RowEl (fun c => c) ks.length w v xs
def SKs (w : World) : List SK → List Value → Prop
  | [], [] => True
  | k :: ks, v :: vs => k.is w v ∧ SKs w ks vs
  | _, _ => False
theorem SKs.length {w : World} : ∀ {ks : List SK} {vs : List Value}, SKs w ks vs → vs.length = ks.length
  | [], [], _ => rfl
  | _ :: _, _ :: _, h => by simp [SKs.length h.2]
  | [], _ :: _, h => h.elim
  | _ :: _, [], h => h.elim
theorem SKs.append {w : World} : ∀ {ks ks' : List SK} {vs vs' : List Value}, SKs w ks vs → SKs w ks' vs' → SKs w (ks ++ ks') (vs ++ vs')
  | [], _, [], _, _, h' => h'
  | _ :: _, _, _ :: _, _, h, h' => ⟨h.1, SKs.append h.2 h'⟩
  | [], _, _ :: _, _, h, _ => h.elim
  | _ :: _, _, [], _, h, _ => h.elim
theorem sk_cons {w : World} {k : SK} {ks : List SK} {cs : List Value} (h : SKs w (k :: ks) cs) : ∃ v vs, cs = v :: vs ∧ k.is w v ∧ SKs w ks vs := by
  cases cs with
  | nil => exact h.elim
  | cons v vs => exact ⟨v, vs, rfl, h.1, h.2⟩
theorem sk_nil {w : World} {cs : List Value} (h : SKs w [] cs) : cs = [] := by
  cases cs with
  | nil => rfl
  | cons v vs => exact h.elim
def stiles (P : Program) (F : TypeId → Option (List SK)) (total : Nat) : List Field → Nat → Option (List SK)
  | [], off => if off = total then some [] else none
  | f :: fs, off => match F f.type with
    | some ks => if f.offset = off ∧ P.cellsOf f.type = ks.length then (stiles P F total fs (off + ks.length)).map (ks ++ ·) else none
    | none => none
def skinds (P : Program) : Nat → TypeId → Option (List SK)
  | 0, _ => none
  | n + 1, t => match P.underlying t with
    | some .bool => some [.ck .bool]
    | some (.int k) => some [.ck (.int k)]
    | some .string => some [.ck .str]
    | some (.slice e) => match flatKinds P n e with
      | some ks => if P.cellsOf e = ks.length ∧ 0 < ks.length then some [.sl ks] else none
      | none => none
    | some (.struct fs) => stiles P (skinds P n) (P.cellsOf t) fs.toList 0
    | _ => none
section
variable {H : Type} {enc : TypeId × Value → H} {P : Program} {w : World} {base : Nat} {spare : Nat → Bool} {held : Bool}
theorem sk_trod : ∀ (n : Nat) (t : TypeId) (ks : List SK), skinds P n t = some ks → ∀ (fuel : Nat) (cs : List Value) (x : DataW H × List MemPlace), DataW.trod enc P w base spare held fuel t cs = some x → SKs w ks cs
  | 0, _, _, h, _, _, _, _ => by simp [skinds] at h
  | n + 1, t, ks, h, fuel, cs, x, hx => by
    have ih := sk_trod n
    unfold skinds at h
    cases hu : P.underlying t with
    | none => simp [hu] at h
    | some u =>
      rw [hu] at h
      cases u with
      | bool =>
        cases h
        cases fuel with
        | zero => simp [DataW.trod] at hx
        | succ m =>
          unfold DataW.trod at hx
          rw [hu] at hx
          split at hx <;> simp_all [SKs, SK.is, CK.is]
      | int k =>
        cases h
        cases fuel with
        | zero => simp [DataW.trod] at hx
        | succ m =>
          unfold DataW.trod at hx
          rw [hu] at hx
          split at hx <;> simp_all [SKs, SK.is, CK.is]
      | string =>
        cases h
        cases fuel with
        | zero => simp [DataW.trod] at hx
        | succ m =>
          unfold DataW.trod at hx
          rw [hu] at hx
          split at hx <;> simp_all [SKs, SK.is, CK.is]
      | slice e =>
        simp only at h
        cases hk : flatKinds P n e with
        | none => simp [hk] at h
        | some kf =>
          rw [hk] at h
          simp only at h
          split at h
          · rename_i hc
            cases h
            have hone : ∃ v, cs = [v] := by
              cases fuel with
              | zero => simp [DataW.trod] at hx
              | succ m =>
                unfold DataW.trod at hx
                rw [hu] at hx
                split at hx <;> simp_all
            obtain ⟨v, rfl⟩ := hone
            exact ⟨flats_in hu hk hc.1 hc.2 hx, trivial⟩
          · cases h
      | struct fs =>
        obtain ⟨xs, m, _, _, hl, hxl, hf⟩ := DataW.trod_struct hu hx
        have hall : ∀ f ∈ fs.toList, ∃ y, DataW.trod enc P w base spare held m f.type ((cs.drop f.offset).take (P.cellsOf f.type)) = some y := fun f hfm => by
          obtain ⟨i, hi⟩ := List.getElem?_of_mem hfm
          have hi' : fs[i]? = some f := by simpa using hi
          have hil : i < xs.length := by rw [hxl]; exact (Array.getElem?_eq_some_iff.1 hi').1
          exact ⟨xs[i], by rw [hf i f hi', List.getElem?_eq_getElem hil]⟩
        have key : ∀ (l : List Field) (off : Nat) (ks : List SK), stiles P (skinds P n) (P.cellsOf t) l off = some ks → (∀ f ∈ l, ∃ y, DataW.trod enc P w base spare held m f.type ((cs.drop f.offset).take (P.cellsOf f.type)) = some y) → SKs w ks (cs.drop off) := by
          intro l
          induction l with
          | nil =>
            intro off ks h _
            simp only [stiles] at h
            split at h
            · rename_i ho
              cases h
              rw [List.drop_eq_nil_of_le (by omega)]
              trivial
            · cases h
          | cons f l ihl =>
            intro off ks h ha
            simp only [stiles] at h
            cases hk : skinds P n f.type with
            | none => simp [hk] at h
            | some kf =>
              rw [hk] at h
              simp only at h
              split at h
              · rename_i hc
                obtain ⟨kr, hr, rfl⟩ := Option.map_eq_some_iff.1 h
                obtain ⟨y, hy⟩ := ha f (by simp)
                have h1 := ih f.type kf hk m _ y hy
                rw [hc.1, hc.2] at h1
                have h2 := ihl _ _ hr (fun g hg => ha g (by simp [hg]))
                have h3 := h1.append h2
                rwa [← List.drop_drop, List.take_append_drop] at h3
              · cases h
        exact key fs.toList 0 ks h hall
      | _ => cases h
/-- One argument of such a type. -/
theorem open_sk {n : Nat} {t : TypeId} {ks : List SK} {v : Value} {d : DataW H} {p : List MemPlace} (hk : skinds P n t = some ks) (h : DataW.Trod enc P w base spare held t v d p) : SKs w ks v.cells.toList := by
  obtain ⟨fuel, h⟩ := h
  exact sk_trod n t ks hk fuel _ _ h
/-- A slice of such. -/
theorem open_sks {r : Reach} {b0 n : Nat} {t e : TypeId} {ks : List SK} {v : Value} {d : DataW H} {p : List MemPlace} (ht : P.underlying t = some (.slice e)) (hk : skinds P n e = some ks) (hc : P.cellsOf e = ks.length) (hk0 : 0 < ks.length)
    (hv : Value.okWide P w r b0 t v) (h : DataW.Trod enc P w base spare held t v d p) : ∃ xs : List (List Value), (∀ c ∈ xs, SKs w ks c) ∧ SAt (fun c => c) ks.length w v xs := by
  obtain ⟨A, len, cap, rfl⟩ := okWide_slice ht hv
  obtain ⟨fuel, h⟩ := h
  rcases open_slice ht h with ⟨h0, _⟩ | ⟨a, len', cap', m, n', D, Pl, h0, _, hl, hcm, hm, _, hi⟩
  · simp [Value.cells] at h0
    obtain ⟨rfl, rfl, rfl⟩ := h0
    exact ⟨[], by simp, Or.inl ⟨rfl, rfl⟩⟩
  · simp [Value.cells] at h0
    obtain ⟨rfl, rfl, rfl⟩ := h0
    have hs : a.spot = none := by
      simp only [Value.okWide, ht, Cell.okWide, Cell.ok] at hv
      exact hv.2.2.2.1
    obtain ⟨ab, ao, asp⟩ := a
    cases hs
    have hlm : len ≤ m := by rw [hm]; split <;> omega
    have hch : ∀ i, ∃ c : List Value, i < len → SKs w ks c ∧ w.cells? base (Addr.add ⟨ab, ao, none⟩ (i * P.cellsOf e)) (P.cellsOf e) = some c := fun i => by
      by_cases hil : i < len
      · obtain ⟨c, h1, h2⟩ := hi i (by omega)
        exact ⟨c, fun _ => ⟨sk_trod n e ks hk _ _ _ h2, h1⟩⟩
      · exact ⟨[], fun h => absurd h hil⟩
    let f := fun i => Classical.choose (hch i)
    have hf : ∀ i, i < len → SKs w ks (f i) ∧ w.cells? base (Addr.add ⟨ab, ao, none⟩ (i * P.cellsOf e)) (P.cellsOf e) = some (f i) := fun i => Classical.choose_spec (hch i)
    refine ⟨(List.range len).map f, fun c hcm => ?_, Or.inr ⟨ab, ao, cap, by simp, by simpa using hl, hcm, fun j x hj i u hu => ?_⟩⟩
    · obtain ⟨i, hi1, rfl⟩ := List.mem_map.1 hcm
      exact (hf i (List.mem_range.1 hi1)).1
    · rw [List.getElem?_map] at hj
      obtain ⟨i', hi', rfl⟩ := Option.map_eq_some_iff.1 hj
      have hjl : j < len := by
        have := (List.getElem?_eq_some_iff.1 hi').1
        simpa using this
      rw [List.getElem?_range hjl] at hi'
      cases hi'
      obtain ⟨h1, h2⟩ := hf j hjl
      obtain ⟨_, hcl, hat⟩ := World.cells?_some h2
      have hlen := h1.length
      have hil : i < (f j).length := (List.getElem?_eq_some_iff.1 hu).1
      have h3 := hat i (by omega)
      rw [hu] at h3
      rw [← h3]
      congr 1
      rw [hc]
      unfold Addr.add
      by_cases e1 : j * ks.length = 0 <;> by_cases e2 : i = 0 <;> simp [e1, e2]
end
/-- The cells of a list, each as something. -/
theorem typed_sks {α : Type} {en : α → List Value} {w : World} {ks : List SK} {p : α → Prop} : ∀ {xs : List (List Value)}, (∀ c ∈ xs, SKs w ks c) → (∀ c, SKs w ks c → ∃ l, c = en l ∧ p l) → ∃ ls : List α, xs = ls.map en ∧ ∀ l ∈ ls, p l
  | [], _, _ => ⟨[], rfl, by simp⟩
  | c :: xs, h, ht => by
    obtain ⟨ls, h1, h2⟩ := typed_sks (xs := xs) (fun c hc => h c (by simp [hc])) ht
    obtain ⟨l, rfl, h3⟩ := ht c (h c (by simp))
    exact ⟨l :: ls, by simp [h1], fun x hx => by rcases List.mem_cons.1 hx with rfl | hx; exact h3; exact h2 x hx⟩
end Go.Proofs.Ytnflgikmljfakaa
