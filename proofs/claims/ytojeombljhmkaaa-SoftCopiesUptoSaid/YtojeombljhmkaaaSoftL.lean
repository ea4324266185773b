/- Soft: names; the closures of Go. -/
import Derived.Test.YtojeombljhmkaaaSoftK
namespace Go.Proofs.Ytojeombljhmkaaa
open Go.RowKit Go.Shelf Go.Sort
set_option linter.unusedVariables false
set_option linter.unusedSimpArgs false
attribute [local go_sem] Oper.semAt_some
abbrev sCells (s : ByteArray) : List Value := [.string s]
theorem elStr : ElT Try.prog 31 9 1 16 (.string ⟨#[]⟩) := ElT.mk' Try.underlying31 (by kernel_rfl) rfl (by decide)
theorem str_one : ∀ x, ∀ u ∈ sCells x, u.oneCell' = true := fun x u hu => by simp at hu; rcases hu with rfl; rfl
theorem sat_oneS (w : World) (s : ByteArray) {b : Nat} (hb : b = w.heap.size) : SAt sCells 1 (w.alloc (.cells #[.string s] 9)) (.slice (some ⟨b, 0, none⟩) 1 1) [s] := by
  subst hb
  exact Or.inr ⟨_, 0, 1, rfl, Nat.le_refl _, by simp [maxLen], rowAt_new (enc := sCells) (k := 1) (fun _ => rfl) w 9 [s] rfl rfl⟩
set_option maxRecDepth 100000 in
set_option maxHeartbeats 1000000 in
theorem names_any (v : Value) (ls : List Th) (w : World) (h : SAt Th.cells 4 w v ls) (hlen : ls.length ≤ 1000000) :
    Calls Try.prog 38 #[v] w fun e w' => (∃ u, e = .returned u ∧ w'.ownsRow w.heap.size 9 1 u ls.length ((ls.map (·.name)).flatMap sCells)) ∧ Below w.heap.size w w' := by
  obtain ⟨A, c, rfl⟩ := h.slice
  have H := Lib.hid h
  have HLEN := Lib.hid hlen
  obtain ⟨R, hR⟩ : ∃ R : Ending → World → Prop, R = fun e w' => (∃ u, e = .returned u ∧ w'.ownsRow w.heap.size 9 1 u ls.length ((ls.map (·.name)).flatMap sCells)) ∧ Below w.heap.size w w' := ⟨_, rfl⟩
  rw [← hR]
  have HR := Lib.hid hR
  clear h hR
  go_enter Try.func38, Try.ntmps38
  go_wp2_with fail
  go_loopg [3, 8] (ls.length + 1) (fun gg s3 s8 wr => ∃ k : Nat, k ≤ ls.length ∧ ls.length - k ≤ gg ∧ s8 = .int .i64 k ∧ Aside (Below w.heap.size w wr) ∧ ∃ n u, u = s3 ∧ n = k ∧ Aside (wr.ownsRow w.heap.size 9 1 u n (((ls.take k).map (·.name)).flatMap sCells)))
  case atStart => exact ⟨0, by omega, by omega, rfl, Below.refl _ _, 0, _, rfl, rfl, World.ownsRow_nil _ _ _ _⟩
  case round =>
    obtain ⟨k, hk, hgg, rfl, HB, n, s3, rfl, rfl, HO⟩ := hrel
    by_cases hlt : n < ls.length
    · have hltz : (n : Int) < (ls.length : Int) := by omega
      have hgk : ls[n]? = some ls[n] := List.getElem?_eq_getElem hlt
      generalize ls[n] = x at hgk
      rcases H.out.below HB.out with ⟨h1, h2⟩ | ⟨b, o, c', h1, _, _, hrow⟩
      · subst h2; simp at hlt
      · simp only [Value.slice.injEq] at h1
        obtain ⟨rfl, -, rfl⟩ := h1
        obtain ⟨c0, c1, c2, c3⟩ := th_row hrow hgk
        have HK := Lib.hid hgk
        clear hrow hgk
        have hz := HB.out.size
        have hba := bl_alloc (Below.refl wr.heap.size wr) (.cells #[.string x.name, .int .i64 x.period, .int .i64 x.next, .int .i64 x.forgot] 35)
        have HOWN2 := Lib.hid (own_lies HO.out (bl_alloc hba (.cells #[.string x.name] 9)))
        go_wp2_with (at_builtin; go_loud (refine wpList_app rfl (.tmp 12) (.tmp 15) rfl elStr (fun _ => rfl) str_one (base := w.heap.size) (v := s3) (src := .slice (some ⟨wr.heap.size + 1, 0, none⟩) 1 1) (xs := (ls.take n).map (·.name)) (ys := [x.name]) (by go_simp) (by go_simp) (by simp; omega) HOWN2.out (sat_oneS (wr.alloc (.cells #[.string x.name, .int .i64 x.period, .int .i64 x.next, .int .i64 x.forgot] 35)) x.name (by simp)) (by simp <;> omega) (by have := HLEN.out; simp [maxLen]; omega) (by have := HLEN.out; simp; omega) ?_; intro v9 w9 hown9 hg9; have HB9 : Hid (Below w.heap.size w w9) := Lib.hid ((bl_then HB.out (bl_alloc hba _)).trans (own_below HOWN2.out hg9 (by simp <;> omega))); have HO9 := Lib.hid hown9; clear hg9 hown9))
        go_roundg (ls.length - (n + 1))
        case measure => omega
        case rel =>
          have h9 : w9.ownsRow w.heap.size 9 1 v9 (n + 1) (((ls.take (n + 1)).map (·.name)).flatMap sCells) := by
            have := HO9.out
            rw [← take_snoc' HK.out, List.map_append]
            simp only [List.length_append, List.length_map, List.length_take, List.length_cons, List.length_nil] at this
            rw [show min n ls.length + (0 + 1) = n + 1 by omega] at this
            exact this
          exact ⟨n + 1, by omega, by omega, by go_num, HB9.out, n + 1, v9, rfl, rfl, h9⟩
    · obtain rfl : n = ls.length := by omega
      have hltz : ¬ ((ls.length : Nat) : Int) < ((ls.length : Nat) : Int) := by omega
      go_wp2_with fail
      rw [HR.out]
      exact ⟨⟨s3, rfl, by have := HO.out; rw [List.take_length] at this; exact this⟩, HB.out⟩
set_option maxHeartbeats 400000 in
theorem gone_pred (now : Int) (nb : Nat) (x : Th) (w : World) (hc : w.cell? ⟨nb, 0, none⟩ = some (.int .i64 now)) :
    Calls Try.prog 33 (#[.agg (Th.cells x).toArray] ++ #[.pointer (some ⟨nb, 0, none⟩)]) w fun e w' => e = .returned (.bool (decide (x.forgot ≤ now))) ∧ Below w.heap.size w w' := by
  have hc2 := bl_cell (bl_alloc (Below.refl _ _) (.cells #[.string x.name, .int .i64 x.period, .int .i64 x.next, .int .i64 x.forgot] 35)) hc
  unfold Th.cells
  show Calls _ _ #[_, _] _ _
  go_enter Try.func33, Try.ntmps33
  go_wp2_with fail
  go_ret
  exact ⟨rfl, bl_alloc (Below.refl _ _) _⟩
set_option maxHeartbeats 400000 in
theorem due_pred (now : Int) (nb : Nat) (x : Th) (w : World) (hc : w.cell? ⟨nb, 0, none⟩ = some (.int .i64 now)) :
    Calls Try.prog 37 (#[.agg (Th.cells x).toArray] ++ #[.pointer (some ⟨nb, 0, none⟩)]) w fun e w' => e = .returned (.bool (decide (x.next ≤ now))) ∧ Below w.heap.size w w' := by
  have hc2 := bl_cell (bl_alloc (Below.refl _ _) (.cells #[.string x.name, .int .i64 x.period, .int .i64 x.next, .int .i64 x.forgot] 35)) hc
  unfold Th.cells
  show Calls _ _ #[_, _] _ _
  go_enter Try.func37, Try.ntmps37
  go_wp2_with fail
  go_ret
  exact ⟨rfl, bl_alloc (Below.refl _ _) _⟩
theorem en_gone : ∀ args w, (callFunc 33 args).run Try.prog w = .ok (.enter 33 args) w := enters_of Try.func33 (by kernel_rfl) rfl
theorem en_due : ∀ args w, (callFunc 37 args).run Try.prog w = .ok (.enter 37 args) w := enters_of Try.func37 (by kernel_rfl) rfl
end Go.Proofs.Ytojeombljhmkaaa
