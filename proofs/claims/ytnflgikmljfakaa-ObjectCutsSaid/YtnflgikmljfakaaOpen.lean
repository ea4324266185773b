/- Arguments of plain types (numbers, bools, strings, structs and arrays of such; slices of these), opened to their cells. Over any program. -/
import Derived.Test.YtnflgikmljfakaaSlices
import Derived.ProofKit
import Derived.OpenShut
import Derived.Deep.Slices
import Derived.SizedLaws
namespace Go.Proofs.Ytnflgikmljfakaa
open Go.RowKit Go.ChangeShapes Go.WideShapes Go.Deep

inductive CK where
  | int (k : IntKind)
  | bool
  | str
def CK.is : CK → Value → Prop
  | .int k, v => ∃ n, v = .int k n ∧ (Lit.int k n).wf = true
  | .bool, v => ∃ b, v = .bool b
  | .str, v => ∃ s : ByteArray, v = .string s ∧ s.size ≤ maxLen
def CKs : List CK → List Value → Prop
  | [], [] => True
  | k :: ks, v :: vs => k.is v ∧ CKs ks vs
  | _, _ => False
theorem CKs.length : ∀ {ks : List CK} {vs : List Value}, CKs ks vs → vs.length = ks.length
  | [], [], _ => rfl
  | _ :: _, _ :: _, h => by simp [CKs.length h.2]
  | [], _ :: _, h => h.elim
  | _ :: _, [], h => h.elim
theorem CKs.append : ∀ {ks ks' : List CK} {vs vs' : List Value}, CKs ks vs → CKs ks' vs' → CKs (ks ++ ks') (vs ++ vs')
  | [], _, [], _, _, h' => h'
  | _ :: _, _, _ :: _, _, h, h' => ⟨h.1, CKs.append h.2 h'⟩
  | [], _, _ :: _, _, h, _ => h.elim
  | _ :: _, _, [], _, h, _ => h.elim

theorem ck_int {k : IntKind} {ks : List CK} {cs : List Value} (h : CKs (.int k :: ks) cs) : ∃ n vs, cs = .int k n :: vs ∧ (Lit.int k n).wf = true ∧ CKs ks vs := by
  cases cs with
  | nil => exact h.elim
  | cons v vs =>
    obtain ⟨⟨n, rfl, hn⟩, h2⟩ := h
    exact ⟨n, vs, rfl, hn, h2⟩
theorem ck_bool {ks : List CK} {cs : List Value} (h : CKs (.bool :: ks) cs) : ∃ b vs, cs = .bool b :: vs ∧ CKs ks vs := by
  cases cs with
  | nil => exact h.elim
  | cons v vs =>
    obtain ⟨⟨b, rfl⟩, h2⟩ := h
    exact ⟨b, vs, rfl, h2⟩
theorem ck_str {ks : List CK} {cs : List Value} (h : CKs (.str :: ks) cs) : ∃ (s : ByteArray) (vs : List Value), cs = .string s :: vs ∧ s.size ≤ maxLen ∧ CKs ks vs := by
  cases cs with
  | nil => exact h.elim
  | cons v vs =>
    obtain ⟨⟨s, rfl, hs⟩, h2⟩ := h
    exact ⟨s, vs, rfl, hs, h2⟩
theorem ck_nil {cs : List Value} (h : CKs [] cs) : cs = [] := by
  cases cs with
  | nil => rfl
  | cons v vs => exact h.elim
theorem wf_i64 {n : Int} (h : (Lit.int .i64 n).wf = true) : -9223372036854775808 ≤ n ∧ n ≤ 9223372036854775807 := by
  simpa [Lit.wf, IntKind.min, IntKind.max, IntKind.signed, IntKind.bits] using h

def tiles (P : Program) (F : TypeId → Option (List CK)) (total : Nat) : List Field → Nat → Option (List CK)
  | [], off => if off = total then some [] else none
  | f :: fs, off => match F f.type with
    | some ks => if f.offset = off ∧ P.cellsOf f.type = ks.length then (tiles P F total fs (off + ks.length)).map (ks ++ ·) else none
    | none => none
def flatKinds (P : Program) : Nat → TypeId → Option (List CK)
  | 0, _ => none
  | n + 1, t => match P.underlying t with
    | some .bool => some [.bool]
    | some (.int k) => some [.int k]
    | some .string => some [.str]
    | some (.struct fs) => tiles P (flatKinds P n) (P.cellsOf t) fs.toList 0
    | some (.array m e) => match flatKinds P n e with
      | some ks => if P.cellsOf e = ks.length ∧ P.cellsOf t = m * ks.length then some (List.replicate m ks).flatten else none
      | none => none
    | _ => none

section
variable {H : Type} {enc : TypeId × Value → H} {P : Program} {w : World} {base : Nat} {spare : Nat → Bool} {held : Bool}

theorem flat_trod : ∀ (n : Nat) (t : TypeId) (ks : List CK), flatKinds P n t = some ks → ∀ (fuel : Nat) (cs : List Value) (x : DataW H × List MemPlace), DataW.trod enc P w base spare held fuel t cs = some x → CKs ks cs
  | 0, _, _, h, _, _, _, _ => by simp [flatKinds] at h
  | n + 1, t, ks, h, fuel, cs, x, hx => by
    have ih := flat_trod n
    unfold flatKinds at h
    cases hu : P.underlying t with
    | none => simp [hu] at h
    | some u =>
      rw [hu] at h
      cases u with
      | bool =>
        cases h
        cases fuel with
        | zero => simp [DataW.trod] at hx
        | succ m =>
          unfold DataW.trod at hx
          rw [hu] at hx
          split at hx <;> simp_all [CKs, CK.is]
      | int k =>
        cases h
        cases fuel with
        | zero => simp [DataW.trod] at hx
        | succ m =>
          unfold DataW.trod at hx
          rw [hu] at hx
          split at hx <;> simp_all [CKs, CK.is]
      | string =>
        cases h
        cases fuel with
        | zero => simp [DataW.trod] at hx
        | succ m =>
          unfold DataW.trod at hx
          rw [hu] at hx
          split at hx <;> simp_all [CKs, CK.is]
      | struct fs =>
        obtain ⟨xs, m, _, _, hl, hxl, hf⟩ := DataW.trod_struct hu hx
        have hall : ∀ f ∈ fs.toList, ∃ y, DataW.trod enc P w base spare held m f.type ((cs.drop f.offset).take (P.cellsOf f.type)) = some y := fun f hfm => by
          obtain ⟨i, hi⟩ := List.getElem?_of_mem hfm
          have hi' : fs[i]? = some f := by simpa using hi
          have hil : i < xs.length := by rw [hxl]; exact (Array.getElem?_eq_some_iff.1 hi').1
          exact ⟨xs[i], by rw [hf i f hi', List.getElem?_eq_getElem hil]⟩
        have key : ∀ (l : List Field) (off : Nat) (ks : List CK), tiles P (flatKinds P n) (P.cellsOf t) l off = some ks → (∀ f ∈ l, ∃ y, DataW.trod enc P w base spare held m f.type ((cs.drop f.offset).take (P.cellsOf f.type)) = some y) → CKs ks (cs.drop off) := by
          intro l
          induction l with
          | nil =>
            intro off ks h _
            simp only [tiles] at h
            split at h
            · rename_i ho
              cases h
              rw [List.drop_eq_nil_of_le (by omega)]
              trivial
            · cases h
          | cons f l ihl =>
            intro off ks h ha
            simp only [tiles] at h
            cases hk : flatKinds P n f.type with
            | none => simp [hk] at h
            | some kf =>
              rw [hk] at h
              simp only at h
              split at h
              · rename_i hc
                obtain ⟨kr, hr, rfl⟩ := Option.map_eq_some_iff.1 h
                obtain ⟨y, hy⟩ := ha f (by simp)
                have h1 := ih f.type kf hk m _ y hy
                rw [hc.1, hc.2] at h1
                have h2 := ihl _ _ hr (fun g hg => ha g (by simp [hg]))
                have h3 := h1.append h2
                rwa [← List.drop_drop, List.take_append_drop] at h3
              · cases h
        exact key fs.toList 0 ks h hall
      | array m e =>
        simp only at h
        cases hk : flatKinds P n e with
        | none => simp [hk] at h
        | some ke =>
          rw [hk] at h
          simp only at h
          split at h
          · rename_i hc
            cases h
            obtain ⟨xs, m', _, _, hl, hxl, hf⟩ := DataW.trod_array hu hx
            have key : ∀ (d j : Nat), j + d = m → CKs (List.replicate d ke).flatten (cs.drop (j * ke.length)) := by
              intro d
              induction d with
              | zero =>
                intro j hj
                have : m = j := by omega
                subst this
                rw [List.drop_eq_nil_of_le (by rw [hl, hc.2]; omega)]
                trivial
              | succ d ihd =>
                intro j hj
                have hjl : j < xs.length := by omega
                have hy := hf j (by omega)
                rw [List.getElem?_eq_getElem hjl, hc.1] at hy
                have h1 := ih e ke hk m' _ _ hy
                have h2 := ihd (j + 1) (by omega)
                rw [List.replicate_succ, List.flatten_cons]
                have h3 := h1.append h2
                rwa [Nat.succ_mul, ← List.drop_drop, List.take_append_drop] at h3
            simpa using key m 0 (by omega)
          · cases h
      | _ => simp at h

/-- A struct or an array by value. -/
theorem open_flat {r : Reach} {b0 n : Nat} {t : TypeId} {ks : List CK} {v : Value} {d : DataW H} {p : List MemPlace} (hwide : (match P.underlying t with | some (.struct _) | some (.array _ _) => true | _ => false) = true) (hk : flatKinds P n t = some ks)
    (hv : Value.okWide P w r b0 t v) (h : DataW.Trod enc P w base spare held t v d p) : ∃ cs : List Value, v = .agg cs.toArray ∧ CKs ks cs := by
  obtain ⟨fuel, h⟩ := h
  unfold Value.okWide at hv
  split at hv
  · obtain ⟨cs, rfl, _⟩ := hv
    exact ⟨cs.toList, by simp, flat_trod n t ks hk fuel _ _ h⟩
  · obtain ⟨cs, rfl, _⟩ := hv
    exact ⟨cs.toList, by simp, flat_trod n t ks hk fuel _ _ h⟩
  · rename_i h1 h2
    split at hwide
    · rename_i fs hu; exact absurd hu (h1 fs)
    · rename_i m e hu; exact absurd hu (h2 m e)
    · cases hwide
/-- A slice of such. -/
theorem open_flats {r : Reach} {b0 n : Nat} {t e : TypeId} {ks : List CK} {v : Value} {d : DataW H} {p : List MemPlace} (ht : P.underlying t = some (.slice e)) (hk : flatKinds P n e = some ks) (hc : P.cellsOf e = ks.length)
    (hv : Value.okWide P w r b0 t v) (h : DataW.Trod enc P w base spare held t v d p) : ∃ xs : List (List Value), (∀ c ∈ xs, CKs ks c) ∧ SAt (fun c => c) ks.length w v xs := by
  obtain ⟨A, len, cap, rfl⟩ := okWide_slice ht hv
  obtain ⟨fuel, h⟩ := h
  rcases open_slice ht h with ⟨h0, _⟩ | ⟨a, len', cap', m, n', D, Pl, h0, _, hl, hcm, hm, _, hi⟩
  · simp [Value.cells] at h0
    obtain ⟨rfl, rfl, rfl⟩ := h0
    exact ⟨[], by simp, Or.inl ⟨rfl, rfl⟩⟩
  · simp [Value.cells] at h0
    obtain ⟨rfl, rfl, rfl⟩ := h0
    have hs : a.spot = none := by
      simp only [Value.okWide, ht, Cell.okWide, Cell.ok] at hv
      exact hv.2.2.2.1
    obtain ⟨ab, ao, asp⟩ := a
    cases hs
    have hlm : len ≤ m := by rw [hm]; split <;> omega
    have hch : ∀ i, ∃ c : List Value, i < len → CKs ks c ∧ w.cells? base (Addr.add ⟨ab, ao, none⟩ (i * P.cellsOf e)) (P.cellsOf e) = some c := fun i => by
      by_cases hil : i < len
      · obtain ⟨c, h1, h2⟩ := hi i (by omega)
        exact ⟨c, fun _ => ⟨flat_trod n e ks hk _ _ _ h2, h1⟩⟩
      · exact ⟨[], fun h => absurd h hil⟩
    let f := fun i => Classical.choose (hch i)
    have hf : ∀ i, i < len → CKs ks (f i) ∧ w.cells? base (Addr.add ⟨ab, ao, none⟩ (i * P.cellsOf e)) (P.cellsOf e) = some (f i) := fun i => Classical.choose_spec (hch i)
    refine ⟨(List.range len).map f, fun c hcm => ?_, Or.inr ⟨ab, ao, cap, by simp, by simpa using hl, hcm, fun j x hj i u hu => ?_⟩⟩
    · obtain ⟨i, hi1, rfl⟩ := List.mem_map.1 hcm
      exact (hf i (List.mem_range.1 hi1)).1
    · rw [List.getElem?_map] at hj
      obtain ⟨i', hi', rfl⟩ := Option.map_eq_some_iff.1 hj
      have hjl : j < len := by
        have := (List.getElem?_eq_some_iff.1 hi').1
        simpa using this
      rw [List.getElem?_range hjl] at hi'
      cases hi'
      obtain ⟨h1, h2⟩ := hf j hjl
      obtain ⟨_, hcl, hat⟩ := World.cells?_some h2
      have hlen := h1.length
      have hil : i < (f j).length := (List.getElem?_eq_some_iff.1 hu).1
      have h3 := hat i (by omega)
      rw [hu] at h3
      rw [← h3]
      congr 1
      rw [hc]
      unfold Addr.add
      by_cases e1 : j * ks.length = 0 <;> by_cases e2 : i = 0 <;> simp [e1, e2]
end

theorem typed_list {α : Type} {enc : α → List Value} {p : α → Prop} : ∀ {xs : List (List Value)}, (∀ c ∈ xs, ∃ l, c = enc l ∧ p l) → ∃ ls : List α, xs = ls.map enc ∧ ∀ l ∈ ls, p l
  | [], _ => ⟨[], rfl, by simp⟩
  | c :: xs, h => by
    obtain ⟨l, rfl, hl⟩ := h c (by simp)
    obtain ⟨ls, rfl, hls⟩ := typed_list (xs := xs) (fun c hc => h c (by simp [hc]))
    exact ⟨l :: ls, rfl, by simpa using ⟨hl, hls⟩⟩
theorem SAt.typed {α : Type} {enc : α → List Value} {k : Nat} {w : World} {v : Value} {ls : List α} (h : SAt (fun c => c) k w v (ls.map enc)) : SAt enc k w v ls := by
  rcases h with ⟨h1, h2⟩ | ⟨b, o, c, h1, h2, h3, h4⟩
  · exact Or.inl ⟨h1, by simpa using h2⟩
  · refine Or.inr ⟨b, o, c, by simpa using h1, by simpa using h2, h3, fun j x hj i u hi => h4 j (enc x) (by simp [hj]) i u hi⟩
end Go.Proofs.Ytnflgikmljfakaa
