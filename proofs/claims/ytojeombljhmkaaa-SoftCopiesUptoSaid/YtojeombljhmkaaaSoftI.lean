/- Soft: all. -/
import Derived.Test.YtojeombljhmkaaaSoftH
import Derived.Test.YtojeombljhmkaaaRange
namespace Go.Proofs.Ytojeombljhmkaaa
open Go.RowKit Go.Shelf Go.Sort
set_option linter.unusedVariables false
set_option linter.unusedSimpArgs false
attribute [local go_sem] Oper.semAt_some
/-- The things of a table, by names. -/
def IsL (L : List Th) (es : List (Nat × Th)) : Prop := L.Perm (es.map (·.2)) ∧ L.Pairwise fun a b => ltS a.name b.name = true
theorem own_lies {w w' : World} {base : Nat} {e : TypeId} {k n : Nat} {v : Value} {cs : List Value} (h : w.ownsRow base e k v n cs) (hb : Below w.heap.size w w') : w'.ownsRow base e k v n cs :=
  h.kept (row := none) ⟨hb.os, hb.tape, hb.output, hb.size, fun j hj _ => hb.block j hj⟩ (by cases hv : v.ownBlock <;> simp)
theorem own_mono {w : World} {b0 base : Nat} {e : TypeId} {k n : Nat} {v : Value} {cs : List Value} (h : w.ownsRow base e k v n cs) (hb : b0 ≤ base) : w.ownsRow b0 e k v n cs := by
  refine ⟨h.1, ?_⟩
  rcases h.2 with h2 | ⟨g, cap, cur, h1, h2, h3⟩
  · exact .inl h2
  · exact .inr ⟨g, cap, cur, h1, by omega, h3⟩
theorem own_form {w : World} {base : Nat} {e : TypeId} {k n : Nat} {v : Value} {cs : List Value} (h : w.ownsRow base e k v n cs) : ∃ A c, v = .slice A n c := by
  rcases h.2 with ⟨rfl, rfl⟩ | ⟨g, cap, cur, rfl, _⟩
  · exact ⟨_, _, rfl⟩
  · exact ⟨_, _, rfl⟩
theorem elTh : ElT Try.prog 45 35 4 40 (.agg #[.string ⟨#[]⟩, .int .i64 0, .int .i64 0, .int .i64 0]) := ElT.mk' Try.underlying45 (by kernel_rfl) rfl (by decide)
theorem th_one : ∀ x, ∀ u ∈ Th.cells x, u.oneCell' = true := fun x u hu => by simp [Th.cells] at hu; rcases hu with rfl | rfl | rfl | rfl <;> rfl
theorem sat_oneT (w : World) (x : Th) {b : Nat} (hb : b = w.heap.size) : SAt Th.cells 4 (w.alloc (.cells #[.string x.name, .int .i64 x.period, .int .i64 x.next, .int .i64 x.forgot] 35)) (.slice (some ⟨b, 0, none⟩) 1 1) [x] := by
  subst hb
  exact Or.inr ⟨_, 0, 1, rfl, Nat.le_refl _, by simp [maxLen], rowAt_new (enc := Th.cells) (k := 4) (fun _ => rfl) w 35 [x] rfl rfl⟩
theorem pair_eq {l₁ l₂ : List Th} (h1 : l₁.Pairwise fun a b => ltS a.name b.name = true) (h2 : l₂.Pairwise fun a b => ltS a.name b.name = true) (hp : l₁.Perm l₂) : l₁ = l₂ := by
  induction l₁ generalizing l₂ with
  | nil => exact (List.nil_perm.1 hp).symm
  | cons a l ih =>
    cases l₂ with
    | nil => exact absurd hp.length_eq (by simp)
    | cons b m =>
      simp only [List.pairwise_cons] at h1 h2
      have hab : a = b := by
        rcases List.mem_cons.1 (hp.mem_iff.1 (List.mem_cons_self (a := a) (l := l))) with h | h
        · exact h
        · rcases List.mem_cons.1 (hp.mem_iff.2 (List.mem_cons_self (a := b) (l := m))) with k | k
          · exact k.symm
          · have := ltS_trans (h2.1 a h) (h1.1 b k)
            rw [ltS_irrefl] at this
            cases this
      subst hab
      rw [ih h1.2 h2.2 (List.Perm.cons_inv hp)]
theorem sorted_is {ys L : List Th} {es : List (Nat × Th)} (hn : (es.map (·.2.name)).Nodup) (hp : ys.Perm (es.map (·.2))) (hs : SortedBy cmpTh ys) (hL : IsL L es) : ys = L := by
  refine pair_eq ?_ hL.2 (hp.trans hL.1.symm)
  have hny : (ys.map (·.name)).Nodup := by
    have := (hp.map (·.name)).nodup_iff
    rw [this, List.map_map]
    exact hn
  unfold SortedBy at hs
  rw [List.pairwise_iff_getElem] at hs ⊢
  intro i j hi hj hij
  have h1 := hs i j hi hj hij
  unfold cmpTh at h1
  rw [cmpS_lt] at h1
  cases h2 : ltS ys[i].name ys[j].name with
  | true => rfl
  | false =>
    have h3 := ltS_total h2 (by simpa using h1)
    unfold List.Nodup at hny
    rw [List.pairwise_iff_getElem] at hny
    exact absurd (by rw [List.getElem_map, List.getElem_map]; exact h3) (hny i j (by simpa using hi) (by simpa using hj) hij)
abbrev mapT (es : List (Nat × Th)) : List (ByteArray × Value) := es.map fun e => (e.2.name, Value.pointer (some ⟨e.1, 0, none⟩))
set_option maxRecDepth 20000 in
set_option maxHeartbeats 400000 in
theorem all_none (v : Value) (w : World) (h : NoTab w v) :
    Calls Try.prog 44 #[v] w fun e w' => e = .returned (.slice none 0 0) ∧ w = w' := by
  have hn := none_yes v w h
  clear h
  go_enter Try.func44, Try.ntmps44
  go_wp2_with (go_at_call 30; refine hn.mono ?_; rintro e w' ⟨rfl, rfl⟩)
  go_ret
  exact ⟨rfl, rfl⟩
set_option maxRecDepth 20000 in
set_option maxHeartbeats 400000 in
theorem all_any (p r : Nat) (now : Int) (es : List (Nat × Th)) (L : List Th) (w : World) (h : TAt w p r now es) (hL : IsL L es) (hlen : es.length ≤ 1000000) :
    Calls Try.prog 44 #[.pointer (some ⟨p, 0, none⟩)] w fun e w' => (∃ v, e = .returned v ∧ w'.ownsRow w.heap.size 35 4 v L.length (L.flatMap Th.cells)) ∧ Below w.heap.size w w' := by
  obtain ⟨c0, c1⟩ := h.cells
  have HN := Lib.hid (none_no p r w c1)
  have H := Lib.hid h
  have HLL := Lib.hid hL
  have HLEN := Lib.hid hlen
  obtain ⟨o, hrange, hR⟩ := run_range (P := Try.prog) Try.underlying63 h.map
  have HR := Lib.hid hR
  clear h hL hlen hR
  go_enter Try.func44, Try.ntmps44
  go_wp2_with (go_at_call 30; refine HN.out.mono ?_; rintro e w' ⟨rfl, rfl⟩)
  generalize hW0 : w.alloc o = W0 at HR ⊢
  have hW0b : Below w.heap.size w W0 := hW0 ▸ bl_alloc (Below.refl _ _) _
  have hW0s : W0.heap.size = w.heap.size + 1 := by rw [← hW0]; simp
  have HW0 := Lib.hid hW0b
  have HS0 := Lib.hid hW0s
  clear hW0 hW0b hW0s hrange c0 c1
  go_loopg [3, 5] es.length (fun gg s3 s5 wr => ∃ dn lf : List (Nat × Th), lf.length ≤ gg ∧ Aside ((dn ++ lf).Perm es) ∧ Aside (RangeAt encS wr r w.heap.size (mapT es) (mapT lf)) ∧ Aside (Below w.heap.size W0 wr) ∧ ∃ n v, v = s3 ∧ n = dn.length ∧ Aside (wr.ownsRow W0.heap.size 35 4 v n ((dn.map (·.2)).flatMap Th.cells)))
  case atStart => exact ⟨[], es, Nat.le_refl _, List.Perm.refl _, HR.out, Below.refl _ _, 0, _, rfl, rfl, World.ownsRow_nil _ _ _ _⟩
  case round =>
    obtain ⟨dn, lf, hgg, HP, HRG, HB, n, s3, rfl, hn, HO⟩ := hrel
    have HNN := Lib.hid hn
    rcases run_next (P := Try.prog) HRG.out with ⟨hl0, hrun⟩ | ⟨k, v', i, w2, hi, hrun, hR2, hent, hg2, hsz2⟩
    · have hlf : lf = [] := by cases lf with | nil => rfl | cons a b => simp at hl0
      subst hlf
      have hp := HP.out
      rw [List.append_nil] at hp
      have hsf := Lib.hid (sortFunc_th cmpTh swoTh 55 #[] en_all1 W0.heap.size s3 (dn.map (·.2)) wr (by have := HO.out; rw [HNN.out] at this; simpa using this) HB.out.size (by have := hp.length_eq; have := HLEN.out; simp; omega) (fun W _ x y => all1_any x y W))
      have HP2 := Lib.hid hp
      obtain ⟨R, hR⟩ : ∃ R : Ending → World → Prop, R = fun e w' => (∃ v, e = .returned v ∧ w'.ownsRow w.heap.size 35 4 v L.length (L.flatMap Th.cells)) ∧ Below w.heap.size w w' := ⟨_, rfl⟩
      clear hl0 hp hgg hn HO HP
      go_wp2_with (go_at_call 54; refine hsf.out.mono ?_; rintro e w3 ⟨rfl, ⟨ys, hpy, hso, ho3⟩, hb3⟩; have HPY := Lib.hid hpy; have HSO := Lib.hid hso; have HO3 := Lib.hid ho3; have HB3 := Lib.hid hb3; clear hpy hso ho3 hb3)
      go_ret
      have hys : ys = L := sorted_is (H.out.names) (HPY.out.trans (HP2.out.map (·.2))) HSO.out HLL.out
      subst hys
      exact ⟨⟨_, rfl, own_mono HO3.out (by have := HS0.out; omega)⟩, (HW0.out.trans HB.out).trans (HB3.out.mono (by have := HS0.out; omega))⟩
    · have hx : ∃ x, lf[i]? = some x ∧ k = x.2.name ∧ v' = .pointer (some ⟨x.1, 0, none⟩) := by
        simp only [List.getElem?_map] at hi
        obtain ⟨x, hx, he⟩ := Option.map_eq_some_iff.1 hi
        simp at he
        exact ⟨x, hx, he.1.symm, he.2.symm⟩
      obtain ⟨x, hx, rfl, rfl⟩ := hx
      have hil : i < lf.length := (List.getElem?_eq_some_iff.1 hx).1
      have hperm := perm_eraseIdx lf i x hx
      have hp2 : ((dn ++ [x]) ++ lf.eraseIdx i).Perm es := by
        refine List.Perm.trans ?_ HP.out
        rw [List.append_assoc]
        exact (hperm.symm).append_left dn
      have hR3 : RangeAt encS w2 r w.heap.size (mapT es) (mapT (lf.eraseIdx i)) := by
        have e : mapT (lf.eraseIdx i) = (mapT lf).eraseIdx i := ChangeMaps.map_eraseIdx _ _ _
        rw [e]
        exact hR2
      have hmem : x ∈ es := hp2.mem_iff.1 (by simp)
      have hlen : dn.length + 1 ≤ 1000000 := by have := hp2.length_eq; simp at this; have := HLEN.out; omega
      have hB2 : Below w.heap.size W0 w2 := HB.out.grown hg2 (by have := HB.out.size; have := HS0.out; omega) (by intro k hk; cases hk; omega)
      have hz2 : W0.heap.size ≤ w2.heap.size := hB2.size
      have hown2 : w2.ownsRow W0.heap.size 35 4 s3 n ((dn.map (·.2)).flatMap Th.cells) := HO.out.kept (row := some w.heap.size) hg2 (by
        cases hk : s3.ownBlock with
        | none => exact .inl rfl
        | some k =>
          refine .inr fun e => ?_
          have := (HO.out.lt k hk).1
          cases e
          have := HS0.out
          omega)
      have hT2 := H.out.below (HW0.out.trans hB2)
      obtain ⟨⟨d0, d1, d2, d3⟩, -⟩ := at_thing hT2 hmem
      have HOWN2 := Lib.hid (own_lies hown2 (bl_alloc (Below.refl _ _) (.cells #[.string x.2.name, .int .i64 x.2.period, .int .i64 x.2.next, .int .i64 x.2.forgot] 35)))
      have HR3 := Lib.hid hR3
      have HB2 := Lib.hid hB2
      have HZ2 := Lib.hid hz2
      have HP2 := Lib.hid hp2
      have HLN := Lib.hid hlen
      have HRLT := Lib.hid (H.out.map.lt)
      clear hi hx hperm hp2 hR2 hR3 hmem hlen hB2 hz2 hown2 hT2 HP HRG HB HO hn hg2 hsz2
      go_wp2_with (at_builtin; go_loud (refine wpList_app rfl (.tmp 17) (.tmp 21) rfl elTh (fun _ => rfl) th_one (base := W0.heap.size) (v := s3) (src := .slice (some ⟨w2.heap.size, 0, none⟩) 1 1) (xs := dn.map (·.2)) (ys := [x.2]) (by go_simp) (by go_simp) (by rw [HNN.out]; simp) HOWN2.out (sat_oneT w2 x.2 rfl) (by have := HZ2.out; simp; omega) (by have := HLN.out; simp [maxLen]; omega) (by have := HLN.out; simp; omega) ?_; intro v9 w9 hown9 hg9; have hb9 : Below W0.heap.size w2 w9 := ((bl_alloc (Below.refl _ _) _).mono HZ2.out).trans (own_below HOWN2.out hg9 (by have := HZ2.out; simp; omega)); have HR9 := Lib.hid (HR3.out.step (hb9.block r (by have := HRLT.out; have := HW0.out.size; omega)) (hb9.block w.heap.size (by have := HS0.out; omega))); have HB9 := Lib.hid (HB2.out.trans (hb9.mono (by have := HS0.out; omega))); have HO9 := Lib.hid hown9; clear hg9 hown9 hb9))
      go_roundg (lf.length - 1)
      case measure => omega
      case rel =>
        have h9 : w9.ownsRow W0.heap.size 35 4 v9 (dn ++ [x]).length (((dn ++ [x]).map (·.2)).flatMap Th.cells) := by have := HO9.out; simpa using this
        exact ⟨dn ++ [x], lf.eraseIdx i, by rw [List.length_eraseIdx]; split <;> omega, HP2.out, HR9.out, HB9.out, _, v9, rfl, rfl, h9⟩
end Go.Proofs.Ytojeombljhmkaaa
