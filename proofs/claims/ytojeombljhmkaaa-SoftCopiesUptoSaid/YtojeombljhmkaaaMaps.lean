/- Maps, said as a list of keys and values in the order in which the keys came: look up, store, delete, range. Over any program. -/
import Derived.Test.YtojeombljhmkaaaLib
import Derived.Maps.Keyed
import Derived.Maps.RangeRun
namespace Go.Proofs.Ytojeombljhmkaaa
open Go.RowKit Go.MapKept
open Go.ChangeMaps (setBlock heap_setBlock_same heap_setBlock_other)

/-- What is asked of the keys' type. -/
structure KLaw (P : Program) (k : TypeId) {κ : Type} (enc : κ → Value) : Prop where
  inj : ∀ {x y : κ}, enc x = enc y → x = y
  check : ∀ (w : World) (em : Bool) (x : κ), (Instr.checkKey em 10000 k (enc x)).run P w = .ok () w
  find : ∀ (w : World) (x : κ) (es : List MapEntry), (∀ e ∈ es, ∃ y, e.key = enc y) →
    ((Instr.findKey k (enc x) es).run P w = .ok none w ∧ ∀ e ∈ es, e.key ≠ enc x) ∨ ∃ j e, (Instr.findKey k (enc x) es).run P w = .ok (some (j, e.val)) w ∧ es[j]? = some e ∧ e.key = enc x
  stays : ∀ (w : World) (x : κ), (Instr.keyThatStays (enc x) (enc x)).run P w = .ok (enc x) w

theorem klaw_int {P : Program} {k : TypeId} {q : IntKind} (hk : P.underlying k = some (.int q)) : KLaw P k (fun x : Int => .int q x) where
  inj h := by injection h
  check w em x := run_checkKey hk (d := .int q) (k := .int q x) rfl em 9999
  find w x es hes := by
    have hks : ∀ y ∈ es, IsKey (.int q) y.key := fun y hy => by obtain ⟨z, hz⟩ := hes y hy; rw [hz]; rfl
    rcases findNow_spec (d := .int q) (k := .int q x) rfl es 0 hks with ⟨h1, h2⟩ | ⟨j, e0, h1, h2, h3⟩
    · exact Or.inl ⟨run_findKey hk h1, h2⟩
    · exact Or.inr ⟨j, e0, by simpa using run_findKey hk h1, h2, h3⟩
  stays w x := run_keyThatStays (d := .int q) (k := .int q x) rfl

theorem klaw_string {P : Program} {k : TypeId} (hk : P.underlying k = some .string) : KLaw P k (fun x : ByteArray => .string x) where
  inj h := by injection h
  check w em x := run_checkKey hk (d := .string) (k := .string x) trivial em 9999
  find w x es hes := by
    have hks : ∀ y ∈ es, IsKey .string y.key := fun y hy => by obtain ⟨z, hz⟩ := hes y hy; rw [hz]; trivial
    rcases findNow_spec (d := .string) (k := .string x) trivial es 0 hks with ⟨h1, h2⟩ | ⟨j, e0, h1, h2, h3⟩
    · exact Or.inl ⟨run_findKey hk h1, h2⟩
    · exact Or.inr ⟨j, e0, by simpa using run_findKey hk h1, h2, h3⟩
  stays w x := run_keyThatStays (d := .string) (k := .string x) trivial

/-- Keys that are arrays or structs: by what '==' says. -/
theorem klaw_wide {P : Program} {k : TypeId} {κ : Type} [DecidableEq κ] {enc : κ → Value} (hwide : (match P.underlying k with | some (.array _ _) | some (.struct _) => true | _ => false) = true)
    (inj : ∀ {x y : κ}, enc x = enc y → x = y) (check : ∀ (w : World) (em : Bool) (x : κ), (Instr.checkKey em 10000 k (enc x)).run P w = .ok () w)
    (eqv : ∀ (w : World) (x y : κ), (Op.equal k (enc x) (enc y)).run P w = .ok (decide (x = y)) w) (bits : ∀ x : κ, Instr.sameBits 10000 (enc x) (enc x) = true) : KLaw P k enc where
  inj := inj
  check := check
  find w x es hes := by
    rw [run_findKey_eq w hwide]
    have : ∀ (es : List MapEntry) (i : Nat), (∀ e ∈ es, ∃ y, e.key = enc y) → ((Instr.findAsking k (enc x) es i).run P w = .ok none w ∧ ∀ e ∈ es, e.key ≠ enc x) ∨ ∃ j e, (Instr.findAsking k (enc x) es i).run P w = .ok (some (i + j, e.val)) w ∧ es[j]? = some e ∧ e.key = enc x := by
      intro es
      induction es with
      | nil => exact fun i _ => Or.inl ⟨by simp [Instr.findAsking], by simp⟩
      | cons e es ih =>
        intro i hes
        obtain ⟨y, hy⟩ := hes e (by simp)
        by_cases hxy : x = y
        · subst hxy
          exact Or.inr ⟨0, e, by simp [Instr.findAsking, hy, eqv, Result.andThen], rfl, hy⟩
        · rcases ih (i + 1) (fun e he => hes e (by simp [he])) with ⟨h1, h2⟩ | ⟨j, e', h1, h2, h3⟩
          · refine Or.inl ⟨by simp [Instr.findAsking, hy, eqv, Result.andThen, hxy, h1], fun e' he => ?_⟩
            rcases List.mem_cons.1 he with rfl | he
            · rw [hy]; exact fun h => hxy (inj h).symm
            · exact h2 e' he
          · exact Or.inr ⟨j + 1, e', by simp [Instr.findAsking, hy, eqv, Result.andThen, hxy, h1]; omega, by simpa using h2, h3⟩
    simpa using this es 0 hes
  stays w x := by simp [Instr.keyThatStays, bits]

section
variable {P : Program} {k : TypeId} {κ : Type} [DecidableEq κ] {enc : κ → Value}

/-- Block r of w is a map that holds just these, in the order in which their keys came. -/
def MapOf (enc : κ → Value) (w : World) (r : Nat) (l : List (κ × Value)) : Prop :=
  ∃ es clock, w.heap[r]? = some (.map es clock) ∧ es.toList.map (fun e => (e.key, e.val)) = l.map (fun p => (enc p.1, p.2)) ∧ (∀ x ∈ es.toList, x.born < clock) ∧ (es.toList.map (·.born)).Nodup ∧ (l.map (·.1)).Nodup

def mget (l : List (κ × Value)) (x : κ) : Option Value := (l.find? fun p => p.1 = x).map (·.2)
def mput (l : List (κ × Value)) (x : κ) (v : Value) : List (κ × Value) := if (mget l x).isSome then l.map (fun p => if p.1 = x then (p.1, v) else p) else l ++ [(x, v)]
def mdel (l : List (κ × Value)) (x : κ) : List (κ × Value) := l.filter fun p => p.1 ≠ x

omit [DecidableEq κ] in
theorem MapOf.step {w w1 : World} {r : Nat} {l : List (κ × Value)} (h : MapOf enc w r l) (e : w1.heap[r]? = w.heap[r]?) : MapOf enc w1 r l := by
  obtain ⟨es, c, hb, rest⟩ := h; exact ⟨es, c, e.trans hb, rest⟩
omit [DecidableEq κ] in
theorem MapOf.lt {w : World} {r : Nat} {l : List (κ × Value)} (h : MapOf enc w r l) : r < w.heap.size := by
  obtain ⟨es, c, hb, rest⟩ := h; exact (Array.getElem?_eq_some_iff.1 hb).1
omit [DecidableEq κ] in
theorem MapOf.below {w w1 : World} {r : Nat} {l : List (κ × Value)} (h : MapOf enc w r l) (hb : Below w.heap.size w w1) : MapOf enc w1 r l := h.step (hb.block r h.lt)
omit [DecidableEq κ] in
theorem MapOf.drew {w : World} {r : Nat} {l : List (κ × Value)} (h : MapOf enc w r l) : MapOf enc w.drew r l := h
omit [DecidableEq κ] in
theorem MapOf.made (w : World) : MapOf enc (w.alloc (.map #[] 0)) w.heap.size [] :=
  ⟨#[], 0, (heap_alloc w _).1, rfl, by simp, by simp, by simp⟩

omit [DecidableEq κ] in
theorem MapOf.made' (w : World) {r : Nat} (hr : r = w.heap.size) : MapOf enc (w.alloc (.map #[] 0)) r [] := hr ▸ MapOf.made w
omit [DecidableEq κ] in
theorem entry_at {es : Array MapEntry} {l : List (κ × Value)} (h : es.toList.map (fun e => (e.key, e.val)) = l.map (fun p => (enc p.1, p.2))) (j : Nat) (e : MapEntry) (he : es.toList[j]? = some e) : ∃ p, l[j]? = some p ∧ e.key = enc p.1 ∧ e.val = p.2 := by
  have h1 := congrArg (fun x => x[j]?) h
  simp only [List.getElem?_map, he, Option.map_some] at h1
  cases hl : l[j]? with
  | none => rw [hl] at h1; simp at h1
  | some p => rw [hl] at h1; simp at h1; exact ⟨p, rfl, h1.1, h1.2⟩
omit [DecidableEq κ] in
theorem entry_keys {es : Array MapEntry} {l : List (κ × Value)} (h : es.toList.map (fun e => (e.key, e.val)) = l.map (fun p => (enc p.1, p.2))) : ∀ e ∈ es.toList, ∃ y, e.key = enc y := fun e he => by
  obtain ⟨j, hj⟩ := List.getElem?_of_mem he
  obtain ⟨p, _, hk, _⟩ := entry_at h j e hj
  exact ⟨p.1, hk⟩
omit [DecidableEq κ] in
theorem entry_of {es : Array MapEntry} {l : List (κ × Value)} (h : es.toList.map (fun e => (e.key, e.val)) = l.map (fun p => (enc p.1, p.2))) (p : κ × Value) (hp : p ∈ l) : ∃ e ∈ es.toList, e.key = enc p.1 ∧ e.val = p.2 := by
  have h1 : (enc p.1, p.2) ∈ l.map (fun p => (enc p.1, p.2)) := List.mem_map.2 ⟨p, hp, rfl⟩
  rw [← h] at h1
  obtain ⟨e, he, h2⟩ := List.mem_map.1 h1
  exact ⟨e, he, congrArg Prod.fst h2, congrArg Prod.snd h2⟩
omit [DecidableEq κ] in
theorem nodup_at {l : List (κ × Value)} (hn : (l.map (·.1)).Nodup) {i j : Nat} {p q : κ × Value} (hi : l[i]? = some p) (hj : l[j]? = some q) (h : p.1 = q.1) : i = j := by
  obtain ⟨hil, rfl⟩ := List.getElem?_eq_some_iff.1 hi
  obtain ⟨hjl, rfl⟩ := List.getElem?_eq_some_iff.1 hj
  have hp := List.pairwise_iff_getElem.1 hn
  rcases Nat.lt_trichotomy i j with hij | hij | hij
  · exact absurd (by rw [List.getElem_map, List.getElem_map]; exact h) (hp i j (by simpa using hil) (by simpa using hjl) hij)
  · exact hij
  · exact absurd (by rw [List.getElem_map, List.getElem_map]; exact h.symm) (hp j i (by simpa using hjl) (by simpa using hil) hij)

theorem mget_none {l : List (κ × Value)} {x : κ} : mget l x = none ↔ ∀ p ∈ l, p.1 ≠ x := by
  simp [mget, List.find?_eq_none]
theorem mget_at {l : List (κ × Value)} (hn : (l.map (·.1)).Nodup) {j : Nat} {p : κ × Value} (hj : l[j]? = some p) : mget l p.1 = some p.2 := by
  unfold mget
  cases hf : l.find? fun q => q.1 = p.1 with
  | none =>
    have := List.find?_eq_none.1 hf p (List.mem_of_getElem? hj)
    simp at this
  | some q =>
    have h1 : q.1 = p.1 := by simpa using List.find?_some hf
    obtain ⟨i, hi⟩ := List.getElem?_of_mem (List.mem_of_find?_eq_some hf)
    have := nodup_at hn hi hj h1
    subst this
    rw [hi] at hj
    cases hj
    rfl

/-- What a look-up finds. -/
theorem find_map (K : KLaw P k enc) {es : Array MapEntry} {l : List (κ × Value)} (w : World) (h : es.toList.map (fun e => (e.key, e.val)) = l.map (fun p => (enc p.1, p.2))) (hn : (l.map (·.1)).Nodup) (x : κ) :
    ((Instr.findKey k (enc x) es.toList).run P w = .ok none w ∧ mget l x = none ∧ ∀ e ∈ es.toList, e.key ≠ enc x) ∨ ∃ j e p, (Instr.findKey k (enc x) es.toList).run P w = .ok (some (j, e.val)) w ∧ es.toList[j]? = some e ∧ l[j]? = some p ∧ e.key = enc x ∧ p.1 = x ∧ e.val = p.2 ∧ mget l x = some p.2 := by
  rcases K.find w x es.toList (entry_keys h) with ⟨h1, h2⟩ | ⟨j, e, h1, h2, h3⟩
  · refine Or.inl ⟨h1, mget_none.2 fun p hp hpx => ?_, h2⟩
    obtain ⟨e, he, hk, _⟩ := entry_of h p hp
    exact h2 e he (by rw [hk, hpx])
  · obtain ⟨p, hp, hk, hv⟩ := entry_at h j e h2
    have hx : p.1 = x := K.inj (by rw [← hk, h3])
    exact Or.inr ⟨j, e, p, h1, h2, hp, h3, hx, hv, by rw [← hx]; exact mget_at hn hp⟩

/-- 'v, ok := m[x]'. -/
theorem run_look {t e : TypeId} (K : KLaw P k enc) (ht : P.underlying t = some (.map k e)) {w : World} {z : Value} (hz : (zeroValue e).run P w = .ok z w) {r : Nat} {l : List (κ × Value)} (h : MapOf enc w r l) (x : κ) (c : Bool) :
    (Instr.lookup t (.map (some r)) (enc x) c).run P w = .ok (if c then .tuple #[(mget l x).getD z, .bool (mget l x).isSome] else (mget l x).getD z) w := by
  obtain ⟨es, clock, hb, hl, _, _, hn⟩ := h
  rcases find_map K w hl hn x with ⟨h1, h2, _⟩ | ⟨j, e0, p, h1, _, _, _, _, hv, h2⟩
  · simp [Instr.lookup, run_underlying ht, MapKept.run_getObj_map hb, K.check w _ x, h1, h2, hz, Result.andThen]
  · simp [Instr.lookup, run_underlying ht, MapKept.run_getObj_map hb, K.check w _ x, h1, h2, hv, Result.andThen]

/-- 'm[x] = v'. -/
theorem run_store {t e : TypeId} (K : KLaw P k enc) (ht : P.underlying t = some (.map k e)) {w : World} {r : Nat} {l : List (κ × Value)} (h : MapOf enc w r l) (x : κ) (v : Value) :
    ∃ w', (Instr.mapUpdate t (.map (some r)) (enc x) v).run P w = .ok () w' ∧ MapOf enc w' r (mput l x v) ∧ w.grownBy w' (some r) ∧ w'.heap.size = w.heap.size := by
  obtain ⟨es, clock, hb, hl, hs1, hs2, hn⟩ := h
  have hg : ∀ o, w.grownBy (setBlock w r o) (some r) := fun o => ⟨rfl, rfl, rfl, by simp [setBlock], fun i _ hi => heap_setBlock_other hb _ (fun e => hi (by rw [e]))⟩
  rcases find_map K w hl hn x with ⟨h1, h2, h3⟩ | ⟨j, e0, p, h1, hj, hp, hk, hx, hv, h2⟩
  · refine ⟨setBlock w r (.map (es.push ⟨enc x, v, clock⟩) (clock + 1)), ?_, ⟨_, _, heap_setBlock_same hb _, ?_, ?_, ?_, ?_⟩, hg _, by simp [setBlock]⟩
    · simp [Instr.mapUpdate, run_underlying ht, MapKept.run_getObj_map hb, K.check w false x, h1, MapKept.run_setObj_map _ hb, Result.andThen, setBlock]
    · simp [mput, h2, hl]
    · intro y hy
      simp only [Array.toList_push, List.mem_append, List.mem_singleton] at hy
      rcases hy with hy | rfl
      · have := hs1 y hy; omega
      · simp
    · simp only [Array.toList_push, List.map_append, List.map_singleton]
      rw [List.nodup_append]
      refine ⟨hs2, by simp, fun a ha b hb' => ?_⟩
      obtain ⟨y, hy, rfl⟩ := List.mem_map.1 ha
      have := hs1 y hy
      simp at hb'
      omega
    · simp only [mput, h2, Option.isSome_none, Bool.false_eq_true, if_false, List.map_append, List.map_singleton]
      rw [List.nodup_append]
      refine ⟨hn, by simp, fun a ha b hb' => ?_⟩
      obtain ⟨y, hy, rfl⟩ := List.mem_map.1 ha
      simp at hb'
      rw [hb']
      exact mget_none.1 h2 y hy
  · have hjs : es[j]? = some e0 := by simpa using hj
    have hmod : (es.modify j fun e => { e with key := enc x, val := v }).toList.map (fun e => (e.key, e.val)) = (mput l x v).map (fun p => (enc p.1, p.2)) := by
      apply List.ext_getElem?
      intro i
      have hi := congrArg (fun l => l[i]?) hl
      simp only [List.getElem?_map] at hi
      simp only [mput, h2, Option.isSome_some, if_true, List.getElem?_map, Array.getElem?_toList, Array.getElem?_modify]
      by_cases hij : j = i
      · subst hij
        simp [hjs, hp, hx]
      · rw [if_neg hij]
        cases hpi : l[i]? with
        | none => rw [hpi] at hi; simpa using hi
        | some q =>
          rw [hpi] at hi
          have : q.1 ≠ x := fun hq => hij (nodup_at hn hp hpi (hx.trans hq.symm))
          simp only [Option.map_some, if_neg this]
          simpa using hi
    have hborn : (es.modify j fun e => { e with key := enc x, val := v }).toList.map (·.born) = es.toList.map (·.born) := by
      apply List.ext_getElem?
      intro i
      simp only [List.getElem?_map, Array.getElem?_toList, Array.getElem?_modify]
      by_cases hij : j = i
      · subst hij; simp [hjs]
      · simp [hij]
    have hkeys : (mput l x v).map (·.1) = l.map (·.1) := by
      simp only [mput, h2, Option.isSome_some, if_true, List.map_map]
      apply List.map_congr_left
      intro q _
      simp only [Function.comp]
      split <;> rfl
    refine ⟨setBlock w r (.map (es.modify j fun e => { e with key := enc x, val := v }) clock), ?_, ⟨_, _, heap_setBlock_same hb _, hmod, ?_, by rw [hborn]; exact hs2, by rw [hkeys]; exact hn⟩, hg _, by simp [setBlock]⟩
    · simp [Instr.mapUpdate, run_underlying ht, MapKept.run_getObj_map hb, K.check w false x, h1, MapKept.run_setObj_map _ hb, Result.andThen, setBlock, hjs, hk, K.stays w x]
    · intro y hy
      have : y.born ∈ (es.modify j fun e => { e with key := enc x, val := v }).toList.map (·.born) := List.mem_map.2 ⟨y, hy, rfl⟩
      rw [hborn] at this
      obtain ⟨z, hz, hzy⟩ := List.mem_map.1 this
      rw [← hzy]
      exact hs1 z hz

/-- 'delete(m, x)'. -/
theorem run_delete {t e ty : TypeId} (K : KLaw P k enc) (ht : P.underlying t = some (.map k e)) {w : World} {r : Nat} {l : List (κ × Value)} (h : MapOf enc w r l) (x : κ) :
    ∃ w', (Builtin.delete_ #[t, k] ty #[.map (some r), enc x]).run P w = .ok (.tuple #[]) w' ∧ MapOf enc w' r (mdel l x) ∧ w.grownBy w' (some r) ∧ w'.heap.size = w.heap.size := by
  obtain ⟨es, clock, hb, hl, hs1, hs2, hn⟩ := h
  have hg : ∀ o, w.grownBy (setBlock w r o) (some r) := fun o => ⟨rfl, rfl, rfl, by simp [setBlock], fun i _ hi => heap_setBlock_other hb _ (fun e => hi (by rw [e]))⟩
  rcases find_map K w hl hn x with ⟨h1, h2, h3⟩ | ⟨j, e0, p, h1, hj, hp, hk, hx, hv, h2⟩
  · have hd : mdel l x = l := List.filter_eq_self.2 fun q hq => by simpa using mget_none.1 h2 q hq
    refine ⟨setBlock w r (.map es clock), ?_, ⟨_, _, heap_setBlock_same hb _, by rw [hd]; exact hl, hs1, hs2, by rw [hd]; exact hn⟩, hg _, by simp [setBlock]⟩
    simp [Builtin.delete_, run_underlying ht, MapKept.run_getObj_map hb, K.check w _ x, h1, MapKept.run_setObj_map _ hb, Result.andThen, setBlock]
  · have hjs : j < es.size := by simpa using (List.getElem?_eq_some_iff.1 hj).1
    have hsub : (es.eraseIdxIfInBounds j).toList = es.toList.eraseIdx j := by
      unfold Array.eraseIdxIfInBounds
      rw [dif_pos hjs]
      simp
    have hd : mdel l x = l.eraseIdx j := by
      unfold mdel
      have : ∀ (l : List (κ × Value)) (j : Nat) (p : κ × Value), (l.map (·.1)).Nodup → l[j]? = some p → (l.filter fun q => decide (q.1 ≠ p.1)) = l.eraseIdx j := by
        intro l
        induction l with
        | nil => intro j p _ h; simp at h
        | cons a l ih =>
          intro j p hn hj
          simp only [List.map_cons, List.nodup_cons] at hn
          cases j with
          | zero =>
            simp at hj
            subst hj
            simp only [List.eraseIdx_zero, List.tail_cons]
            rw [List.filter_cons_of_neg (by simp)]
            exact List.filter_eq_self.2 fun q hq => by simpa using fun (h : q.1 = a.1) => hn.1 (h ▸ List.mem_map.2 ⟨q, hq, rfl⟩)
          | succ j =>
            simp at hj
            have : a.1 ≠ p.1 := fun h => hn.1 (h ▸ List.mem_map.2 ⟨p, List.mem_of_getElem? hj, rfl⟩)
            rw [List.filter_cons_of_pos (by simpa using this), List.eraseIdx_cons_succ, ih j p hn.2 hj]
      rw [← hx]
      exact this l j p hn hp
    refine ⟨setBlock w r (.map (es.eraseIdxIfInBounds j) clock), ?_, ⟨_, _, heap_setBlock_same hb _, ?_, ?_, ?_, ?_⟩, hg _, by simp [setBlock]⟩
    · simp [Builtin.delete_, run_underlying ht, MapKept.run_getObj_map hb, K.check w _ x, h1, MapKept.run_setObj_map _ hb, Result.andThen, setBlock]
    · rw [hsub, hd, ChangeMaps.map_eraseIdx, ChangeMaps.map_eraseIdx, hl]
    · intro y hy
      rw [hsub] at hy
      exact hs1 y ((List.eraseIdx_sublist _ _).subset hy)
    · rw [hsub, ChangeMaps.map_eraseIdx]
      exact hs2.sublist (List.eraseIdx_sublist _ _)
    · rw [hd, ChangeMaps.map_eraseIdx]
      exact hn.sublist (List.eraseIdx_sublist _ _)

/-- 'm[x] = v' at the operation. -/
theorem wpList_store {ops : Array Oper} {rest : List Oper} {o : Oper} {a : Act} {Q : Exit → Act → World → Prop} {w : World} {t e : TypeId} {r : Nat} {l : List (κ × Value)} (hg : o.guard = none) (m x v : Operand) (hop : o.op = Op.mapUpdate t m x v)
    (K : KLaw P k enc) (ht : P.underlying t = some (.map k e)) (h : MapOf enc w r l) (key : κ) (val : Value) (hm : a.eval m = .map (some r)) (hx : a.eval x = enc key) (hv : a.eval v = val)
    (hK : ∀ w', MapOf enc w' r (mput l key val) → w.grownBy w' (some r) → w'.heap.size = w.heap.size → wpList P ops Q rest (a.put o.dst undef) w') : wpList P ops Q (o :: rest) a w := by
  refine wpList_plain hg fun K' hK' => ?_
  obtain ⟨w', hrun, r1, r2, r3⟩ := run_store K ht h key val
  unfold Oper.wp
  simp [execOp, hop, hm, hx, hv, hrun, Result.andThen]
  exact hK' _ _ (hK w' r1 r2 r3)

omit [DecidableEq κ] in
/-- 'len(m)'. -/
theorem run_mlen {w : World} {r : Nat} {l : List (κ × Value)} (h : MapOf enc w r l) : ∃ es clock, w.heap[r]? = some (.map es clock) ∧ es.size = l.length := by
  obtain ⟨es, clock, hb, hl, _⟩ := h
  refine ⟨es, clock, hb, ?_⟩
  have := congrArg List.length hl
  simpa using this
end
end Go.Proofs.Ytojeombljhmkaaa
