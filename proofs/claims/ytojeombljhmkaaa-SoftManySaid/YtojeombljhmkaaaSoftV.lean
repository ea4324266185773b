/- Soft: SoftMany. -/
import Derived.Test.YtojeombljhmkaaaSoftU
import Derived.Laws.BytesArg
namespace Go.Proofs.Ytojeombljhmkaaa
open Go.RowKit Go.Shelf Go.Sort
set_option linter.unusedVariables false
set_option linter.unusedSimpArgs false
attribute [local go_sem] Oper.semAt_some
def nm (i : Nat) : ByteArray := ⟨#[UInt8.ofNat (97 + i / 26), UInt8.ofNat (97 + i % 26)]⟩
theorem nm_inj {i j : Nat} (hi : i < 260) (hj : j < 260) (h : nm i = nm j) : i = j := by
  unfold nm at h
  simp only [ByteArray.mk.injEq, Array.mk.injEq, List.cons.injEq, and_true] at h
  have h1 := congrArg UInt8.toNat h.1
  have h2 := congrArg UInt8.toNat h.2
  simp only [UInt8.toNat_ofNat'] at h1 h2
  omega
theorem nm_named (i : Nat) : namedB (nm i) = true := by
  have h1 : (nm i).size = 2 := rfl
  have h2 : (nm i).toList.isEmpty = false := by rw [Lib.toList_data]; rfl
  unfold namedB
  rw [h1, h2]
  rfl
/-- The table after so many. -/
structure ManyT (k : Nat) (L : List Th) : Prop where
  len : L.length = min k 256
  from_ : ∀ x ∈ L, ∃ j, j < k ∧ x.name = nm j
  aa : 0 < k → ∃ x ∈ L, x.name = nm 0
theorem many_find {k : Nat} {L : List Th} (h : ManyT k L) (hk : k < 260) : findL L (nm k) = none := by
  refine List.find?_eq_none.2 fun x hx => ?_
  obtain ⟨j, hj, he⟩ := h.from_ x hx
  have : x.name ≠ nm k := fun e => by have := nm_inj (by omega) hk (he.symm.trans e); omega
  simpa using this
theorem many_keep {k : Nat} {L : List Th} (h : ManyT k L) (hk : k < 260) :
    ∃ L', keepL 0 L (nm k) 5 = (L', decide (k < 256), if k < 256 then 0 else 3) ∧ ManyT (k + 1) L' := by
  unfold keepL
  rw [if_pos ⟨nm_named k, by decide⟩, many_find h hk]
  have hl := h.len
  by_cases h256 : k < 256
  · show ∃ L', (if 256 ≤ L.length then _ else _ : List Th × Bool × Int) = _ ∧ _
    rw [if_neg (by omega), decide_eq_true h256, if_pos h256]
    refine ⟨_, rfl, ?_, fun x hx => ?_, fun _ => ?_⟩
    · unfold withL
      rw [(insL_perm _ _).length_eq, List.length_cons]
      have : L.filter (fun y => decide (y.name ≠ nm k)) = L := List.filter_eq_self.2 fun y hy => by
        have := List.find?_eq_none.1 (many_find h hk) y hy
        simpa using this
      show (L.filter fun y => decide (y.name ≠ nm k)).length + 1 = _
      rw [this]
      omega
    · rcases withL_mem.1 hx with rfl | ⟨hx, -⟩
      · exact ⟨k, by omega, rfl⟩
      · obtain ⟨j, hj, he⟩ := h.from_ x hx
        exact ⟨j, by omega, he⟩
    · by_cases h0 : 0 < k
      · obtain ⟨x, hx, he⟩ := h.aa h0
        exact ⟨x, withL_mem.2 (.inr ⟨hx, fun e => by have := nm_inj (by omega) hk (he.symm.trans e); omega⟩), he⟩
      · obtain rfl : k = 0 := by omega
        exact ⟨_, withL_mem.2 (.inl rfl), rfl⟩
  · show ∃ L', (if 256 ≤ L.length then _ else _ : List Th × Bool × Int) = _ ∧ _
    rw [if_pos (by omega), decide_eq_false h256, if_neg h256]
    exact ⟨L, rfl, by omega, fun x hx => by obtain ⟨j, hj, he⟩ := h.from_ x hx; exact ⟨j, by omega, he⟩, fun _ => h.aa (by omega)⟩
theorem many_again {k : Nat} {L : List Th} (h : ManyT k L) (hk : 0 < k) : (keepL 0 L ⟨#[97, 97]⟩ 6).2 = (false, 0) := by
  have h0 : (⟨#[97, 97]⟩ : ByteArray) = nm 0 := rfl
  rw [h0]
  unfold keepL
  rw [if_pos ⟨nm_named 0, by decide⟩]
  cases hf : findL L (nm 0) with
  | none =>
    obtain ⟨x, hx, he⟩ := h.aa hk
    exact absurd he (by simpa using List.find?_eq_none.1 hf x hx)
  | some x => rfl
theorem filter_one {L : List Th} (h : ByName L) {x : Th} (hx : x ∈ L) : (L.filter fun y => decide (y.name ≠ x.name)).length + 1 = L.length := by
  induction L with
  | nil => cases hx
  | cons a l ih =>
    have h' := List.pairwise_cons.1 h
    by_cases ha : a.name = x.name
    · have hl : l.filter (fun y => decide (y.name ≠ x.name)) = l := List.filter_eq_self.2 fun y hy => by
        have h1 := h'.1 y hy
        have : y.name ≠ x.name := fun e => by rw [ha, e, ltS_irrefl] at h1; cases h1
        simpa using this
      rw [List.filter_cons_of_neg (by simpa using ha), hl, List.length_cons]
    · have hxl : x ∈ l := by
        rcases List.mem_cons.1 hx with rfl | hx
        · exact absurd rfl ha
        · exact hx
      rw [List.filter_cons_of_pos (by simpa using ha), List.length_cons, List.length_cons, ih h'.2 hxl]
theorem withL_len_old {L : List Th} (h : ByName L) {x x' : Th} (hx : x ∈ L) (he : x'.name = x.name) : (withL L x').length = L.length := by
  unfold withL
  rw [(insL_perm _ _).length_eq, List.length_cons, he]
  exact filter_one h hx
theorem many_again_len {k : Nat} {L : List Th} (h : ManyT k L) (hk : 0 < k) (hL : ByName L) : (keepL 0 L ⟨#[97, 97]⟩ 6).1.length = L.length := by
  have h0 : (⟨#[97, 97]⟩ : ByteArray) = nm 0 := rfl
  rw [h0]
  unfold keepL
  rw [if_pos ⟨nm_named 0, by decide⟩]
  cases hf : findL L (nm 0) with
  | none =>
    obtain ⟨x, hx, he⟩ := h.aa hk
    exact absurd he (by simpa using List.find?_eq_none.1 hf x hx)
  | some x => exact withL_len_old hL (List.mem_of_find?_eq_some hf) rfl
theorem nm_conv (k : Nat) (W : World) (hk : k < 260) : (convert 25 9 (.slice (some ⟨W.heap.size, 0, none⟩) 2 2)).run Try.prog (W.alloc (.cells #[.int .u8 (97 + (k : Int) / 26), .int .u8 (97 + (k : Int) % 26)] 5)) = .ok (.string (nm k)) (W.alloc (.cells #[.int .u8 (97 + (k : Int) / 26), .int .u8 (97 + (k : Int) % 26)] 5)) := by
  have h := run_convert_bytes_arg (P := Try.prog) (W.alloc (.cells #[.int .u8 (97 + (k : Int) / 26), .int .u8 (97 + (k : Int) % 26)] 5)) 25 5 Try.underlying25 Try.underlying5 W.heap.size 0 2 2 [97 + (k : Int) / 26, 97 + (k : Int) % 26] rfl (fun i hi => by
    have : i = 0 ∨ i = 1 := by omega
    rcases this with rfl | rfl <;> go_simp) 9 Try.underlying9
  have e : strOfNums [97 + (k : Int) / 26, 97 + (k : Int) % 26] = nm k := by
    have h1 : (97 + (k : Int) / 26).toNat = 97 + k / 26 := by omega
    have h2 : (97 + (k : Int) % 26).toNat = 97 + k % 26 := by omega
    unfold strOfNums nm
    simp [h1, h2]
  rw [e] at h
  exact h
set_option maxRecDepth 100000 in
set_option maxHeartbeats 2000000 in
theorem softMany_any (n : Int) (w : World) :
    Calls Try.prog 3 #[.int .i64 n] w fun e w' => e = .returned (.bool true) ∧ Below w.heap.size w w' := by
  obtain ⟨Q, hQ⟩ : ∃ Q : Ending → World → Prop, Q = fun e w' => e = .returned (.bool true) ∧ Below w.heap.size w w' := ⟨_, rfl⟩
  rw [← hQ]
  have HQ := Lib.hid hQ
  clear hQ
  by_cases hn : n < 250 ∨ 260 < n
  · have HK := Lib.hid (known_any w)
    rcases hn with hn | hn
    · go_enter Try.func3, Try.ntmps3
      go_wp2_with (go_at_call 9; refine HK.out.mono ?_; rintro e w' ⟨rfl, hb⟩; have HB := Lib.hid hb; clear hb)
      rw [HQ.out]
      exact ⟨rfl, HB.out⟩
    · have hn2 : ¬ n < 250 := by omega
      go_enter Try.func3, Try.ntmps3
      go_wp2_with (go_at_call 9; refine HK.out.mono ?_; rintro e w' ⟨rfl, hb⟩; have HB := Lib.hid hb; clear hb)
      rw [HQ.out]
      exact ⟨rfl, HB.out⟩
  · obtain ⟨N, rfl⟩ : ∃ N : Nat, n = N := ⟨n.toNat, by omega⟩
    have hn1 : 250 ≤ (N : Int) := by omega
    have hn2 : (N : Int) ≤ 260 := by omega
    clear hn
    have hnew := Lib.hid (new_all w)
    go_enter Try.func3, Try.ntmps3
    go_wp2_with (go_at_call 10; refine hnew.out.mono ?_; rintro e w1 ⟨p, r, rfl, hp, hr, ht, hb⟩; have HS : Hid (∀ i, TSet p r [] i → w.heap.size ≤ i) := Lib.hid (by rintro i (rfl | rfl | h); exact hp; exact hr; simp at h); have HT := Lib.hid ht; have HB := Lib.hid hb; clear ht hb hp hr)
    go_loopg [4] (N + 1) (fun gg s4 wr => ∃ k : Nat, k ≤ N ∧ N - k ≤ gg ∧ s4 = .int .i64 k ∧ ∃ L es, Aside (ManyT k L) ∧ Aside (Tb wr p r 0 L es) ∧ Aside (∀ i, TSet p r es i → w.heap.size ≤ i) ∧ Aside (Below w.heap.size w wr))
    case atStart => exact ⟨0, by omega, by omega, rfl, [], [], ⟨rfl, fun x hx => by simp at hx, fun h => absurd h (by omega)⟩, HT.out, HS.out, HB.out⟩
    case round =>
      clear HT HS HB
      obtain ⟨k, hk, hgg, rfl, L, es, HM, HT, HS, HB⟩ := hrel
      by_cases hlt : k < N
      · have hltz : (k : Int) < (N : Int) := by omega
        have hk260 : k < 260 := by omega
        have hcv := nm_conv k wr hk260
        obtain ⟨L', hke, hM'⟩ := many_keep HM.out hk260
        have hbs := bl_alloc (Below.refl wr.heap.size wr) (.cells #[.int .u8 (97 + (k : Int) / 26), .int .u8 (97 + (k : Int) % 26)] 5)
        have hcall := keep_all p r 0 L es (nm k) 5 _ (HT.out.below hbs)
        rw [hke] at hcall
        have HM' := Lib.hid hM'
        have HB1 := Lib.hid (bl_then HB.out hbs)
        by_cases h256 : k < 256
        · rw [decide_eq_true h256, if_pos h256] at hcall
          have hz6 : (k : Int) < 256 := by omega
          have HC := Lib.hid hcall
          clear hcall hke hM' hbs h256
          go_wp2_with (go_at_call 11; refine HC.out.mono ?_; rintro e w2 ⟨rfl, hd⟩; obtain ⟨es2, ht, hs, hb⟩ := hd.below HS.out HB1.out.size; have HB2 := Lib.hid (HB1.out.trans hb); have HT2 := Lib.hid ht; have HS2 := Lib.hid hs; clear ht hs hb hd)
          go_roundg (N - (k + 1))
          case measure => omega
          case rel => exact ⟨k + 1, by omega, by omega, by go_num, L', es2, HM'.out, HT2.out, HS2.out, HB2.out⟩
        · rw [decide_eq_false h256, if_neg h256] at hcall
          have hz6 : ¬ (k : Int) < 256 := by omega
          have hz7 : 256 ≤ (k : Int) := by omega
          have HC := Lib.hid hcall
          clear hcall hke hM' hbs h256
          go_wp2_with (go_at_call 11; refine HC.out.mono ?_; rintro e w2 ⟨rfl, hd⟩; obtain ⟨es2, ht, hs, hb⟩ := hd.below HS.out HB1.out.size; have HB2 := Lib.hid (HB1.out.trans hb); have HT2 := Lib.hid ht; have HS2 := Lib.hid hs; clear ht hs hb hd)
          go_roundg (N - (k + 1))
          case measure => omega
          case rel => exact ⟨k + 1, by omega, by omega, by go_num, L', es2, HM'.out, HT2.out, HS2.out, HB2.out⟩
      · obtain rfl : k = N := by omega
        have hltz : ¬ ((k : Nat) : Int) < (k : Int) := by omega
        have h0 : 0 < k := by omega
        have hag := many_again HM.out h0
        have hle := many_again_len HM.out h0 HT.out.isL.2
        have hcall := keep_all p r 0 L es ⟨#[97, 97]⟩ 6 _ HT.out
        rw [hag] at hcall
        obtain ⟨M, hM⟩ : ∃ M : Int, M = ((keepL 0 L ⟨#[97, 97]⟩ 6).1.length : Int) := ⟨_, rfl⟩
        have hlm := HM.out.len
        have hmin : min (k : Int) 256 = M := by omega
        generalize (keepL 0 L ⟨#[97, 97]⟩ 6).1 = L2 at hcall hM
        have HMM := Lib.hid hM
        have HC := Lib.hid hcall
        clear hcall hag hle hlm hM
        go_wp2_with (first | (go_at_call 11; refine HC.out.mono ?_; rintro e w2 ⟨rfl, hd⟩; obtain ⟨es2, ht, hs, hb⟩ := hd.below HS.out HB.out.size; have HB2 := Lib.hid (HB.out.trans hb); have hlen := len_all p r 0 L2 es2 w2 ht; rw [← HMM.out] at hlen; have HLN := Lib.hid hlen; have HK := Lib.hid (known_any w2); clear ht hs hb hd hlen) | (go_at_call 12; refine HLN.out.mono ?_; rintro e w3 ⟨rfl, rfl⟩) | (go_at_call 9; refine HK.out.mono ?_; rintro e w4 ⟨rfl, hb⟩; have HB4 := Lib.hid (bl_then HB2.out hb); clear hb))
        rw [HQ.out]
        exact ⟨rfl, HB4.out⟩
end Go.Proofs.Ytojeombljhmkaaa
