/- Topo: New. -/
import Derived.Test.YtfifmkjidljeeaaTopoD
import Derived.Deep.RegionWith
import Derived.Deep.DeepCutAuto
import Derived.Deep.CutBlock
import Derived.WalkMore
import Derived.ScopeJumps
import Derived.StillTailTactics
namespace Go.Proofs.Ytfifmkjidljeeaa
open Go.RowKit Go.Shelf

/-- Of which the first is found: two links of the same two nodes. -/
def dupB (ls : List Lk) : Bool := (List.range ls.length).any fun i => (mget (idxs (ls.take i)) ((ls.getD i Lk0).a, (ls.getD i Lk0).b)).isSome
def backB (ls : List Lk) : Bool := ls.all fun l => (btw ls l.b l.a).isSome
def newErr (nodes : Int) (ls : List Lk) : Int :=
  if (!wi nodes 1 16 || ls.any fun l => !okLink l nodes) = true then 2 else if 48 < ls.length then 3 else if dupB ls = true then 190 else if backB ls = false then 191 else 0
def NewPost (nodes : Int) (ls : List Lk) (w : World) (e : Ending) (w' : World) : Prop :=
  (newErr nodes ls = 0 ∧ ∃ q, e = .returned (.tuple #[.pointer (some ⟨q, 0, none⟩), .int .i64 0]) ∧ TMap w' q nodes ls ∧ Below w.heap.size w w') ∨ (newErr nodes ls ≠ 0 ∧ e = .returned (.tuple #[.pointer none, .int .i64 (newErr nodes ls)]) ∧ Below w.heap.size w w')

/-- What New has made ahead of its checks. -/
def Made (w : World) (q bn : Nat) (nodes : Int) (ls : List Lk) (l : List ((Int × Int) × Value)) (wx : World) : Prop :=
  Below w.heap.size w wx ∧ w.heap.size ≤ q ∧ w.heap.size ≤ bn ∧ wx.cell? ⟨bn, 0, none⟩ = some (.int .i64 nodes) ∧ ∃ v r, w.heap.size ≤ r ∧ r ≠ q ∧ wx.cell? ⟨q, 0, none⟩ = some (.int .i64 nodes) ∧ wx.cell? ⟨q, 1, none⟩ = some v ∧ wx.cell? ⟨q, 2, none⟩ = some (.map (some r)) ∧ SAt Lk.cells 8 wx v ls ∧ MapOf enc2 wx r l

set_option maxHeartbeats 400000 in
theorem new1_any (l : Lk) (n : Int) (b : Nat) (w : World) (hb : b < w.heap.size) (hn : w.cell? ⟨b, 0, none⟩ = some (.int .i64 n)) :
    Calls Try.prog 32 #[.agg #[.int .i64 l.a, .int .i64 l.b, .int .i64 l.c, .int .i64 l.d, .int .i64 l.e, .int .i64 l.f, .int .i64 l.g, .int .i64 l.h], .pointer (some ⟨b, 0, none⟩)] w fun e w' => e = .returned (.bool (!okLink l n)) ∧ Below w.heap.size w w' := by
  cases hq : okLink l n
  all_goals
    have HQ := Lib.hid hq
    clear hq
    go_enter Try.func32, Try.ntmps32
    go_wp2_with (go_at_call 8; refine (check_any l n _).mono ?_; rintro e w' ⟨rfl, hb⟩; rw [HQ.out])
    go_ret
    exact ⟨rfl, (bl_alloc (Below.refl _ _) _).trans (hb.mono (by simp))⟩

theorem Made.step {w W W' : World} {q bn : Nat} {nodes : Int} {ls : List Lk} {l : List ((Int × Int) × Value)} (h : Made w q bn nodes ls l W) (hb : Below W.heap.size W W') : Made w q bn nodes ls l W' := by
  obtain ⟨hb0, hq0, hbn, c0, v', r, hr0, hrq, d0, d1, d2, hs, hmp⟩ := h
  exact ⟨bl_then hb0 hb, hq0, hbn, bl_cell hb c0, v', r, hr0, hrq, bl_cell hb d0, bl_cell hb d1, bl_cell hb d2, hs.below hb, hmp.below hb⟩
theorem Made.store {w W W' : World} {q bn r : Nat} {nodes : Int} {ls : List Lk} {l : List ((Int × Int) × Value)} {v' : Value} (hb0 : Below w.heap.size w W) (hq0 : w.heap.size ≤ q) (hbn : w.heap.size ≤ bn) (c0 : W.cell? ⟨bn, 0, none⟩ = some (.int .i64 nodes)) (hr0 : w.heap.size ≤ r) (hrq : r ≠ q)
    (d0 : W.cell? ⟨q, 0, none⟩ = some (.int .i64 nodes)) (d1 : W.cell? ⟨q, 1, none⟩ = some v') (d2 : W.cell? ⟨q, 2, none⟩ = some (.map (some r))) (hs : SAt Lk.cells 8 W v' ls) (hm : CellsKept W W') (hg : W.grownBy W' (some r)) (hmp : MapOf enc2 W' r l) : Made w q bn nodes ls l W' :=
  ⟨hb0.grown hg hb0.size (by intro k hk; cases hk; exact hr0), hq0, hbn, hm _ _ _ c0, v', r, hr0, hrq, hm _ _ _ d0, hm _ _ _ d1, hm _ _ _ d2, hs.kept hm, hmp⟩
theorem Made.tmap {w W : World} {q bn : Nat} {nodes : Int} {ls : List Lk} (h : Made w q bn nodes ls (idxs ls) W) : TMap W q nodes ls := by
  obtain ⟨hb0, hq0, hbn, c0, v', r, hr0, hrq, d0, d1, d2, hs, hmp⟩ := h
  exact ⟨v', r, d0, d1, d2, hs, hmp⟩
theorem made_mk {w W : World} {nodes : Int} {ls : List Lk} {sv : Value} {r t : Nat} (hb : Below w.heap.size w W) (hsz : w.heap.size < W.heap.size) (h1 : W.cell? ⟨w.heap.size, 0, none⟩ = some (.int .i64 nodes)) (hs : SAt Lk.cells 8 W sv ls) (hr : MapOf enc2 W r []) (hrw : w.heap.size ≤ r) :
    Made w W.heap.size w.heap.size nodes ls [] (W.alloc (.cells #[.int .i64 nodes, sv, .map (some r)] t)) := by
  have hlt := hr.lt
  have ha : Below W.heap.size W (W.alloc (.cells #[.int .i64 nodes, sv, .map (some r)] t)) := bl_alloc (Below.refl _ _) _
  exact ⟨bl_alloc hb _, by omega, Nat.le_refl _, bl_cell ha h1, sv, r, hrw, by omega, by go_simp, by go_simp, by go_simp, hs.below ha, hr.below ha⟩

theorem idxs_put {ls : List Lk} {kk : Nat} {l : Lk} (h : mget (idxs (ls.take kk)) (l.a, l.b) = none) (hl : ls[kk]? = some l) : mput (idxs (ls.take kk)) (l.a, l.b) (.int .i64 kk) = idxs (ls.take (kk + 1)) := by
  have hlt : kk < ls.length := (List.getElem?_eq_some_iff.1 hl).1
  have hl' : ls[kk] = l := by rw [List.getElem?_eq_getElem hlt] at hl; exact Option.some.inj hl
  unfold mput
  rw [h]
  simp only [Option.isSome_none, Bool.false_eq_true, if_false]
  rw [List.take_succ_eq_append_getElem hlt, hl']
  simp [idxs, List.zipIdx_append, List.length_take, Nat.min_eq_left (Nat.le_of_lt hlt)]
theorem newErr_dup {nodes : Int} {ls : List Lk} (hq : wi nodes 1 16 = true) (hbad : (ls.any fun l => !okLink l nodes) = false) (hl : ls.length ≤ 48) (i : Nat) (hi : i < ls.length) (h : (mget (idxs (ls.take i)) ((ls.getD i Lk0).a, (ls.getD i Lk0).b)).isSome = true) : newErr nodes ls = 190 := by
  have hd : dupB ls = true := List.any_eq_true.2 ⟨i, List.mem_range.2 hi, h⟩
  unfold newErr
  rw [hq, hbad, hd]
  rw [if_neg (by decide), if_neg (by omega), if_pos rfl]
theorem nodup_of {ls : List Lk} (h : ∀ i, i < ls.length → mget (idxs (ls.take i)) ((ls.getD i Lk0).a, (ls.getD i Lk0).b) = none) : dupB ls = false :=
  List.any_eq_false.2 fun i hi => by rw [h i (List.mem_range.1 hi)]; decide
theorem newErr_back {nodes : Int} {ls : List Lk} (hq : wi nodes 1 16 = true) (hbad : (ls.any fun l => !okLink l nodes) = false) (hl : ls.length ≤ 48) (hd : dupB ls = false) (i : Nat) (l : Lk) (hi : ls[i]? = some l) (h : btw ls l.b l.a = none) : newErr nodes ls = 191 := by
  have hb : backB ls = false := by
    cases hb : backB ls with
    | false => rfl
    | true =>
      have := List.all_eq_true.1 hb l (List.mem_of_getElem? hi)
      rw [h] at this
      cases this
  unfold newErr
  rw [hq, hbad, hd, hb]
  rw [if_neg (by decide), if_neg (by omega), if_neg (by decide), if_pos rfl]
theorem newErr_ok {nodes : Int} {ls : List Lk} (hq : wi nodes 1 16 = true) (hbad : (ls.any fun l => !okLink l nodes) = false) (hl : ls.length ≤ 48) (hd : dupB ls = false) (h : ∀ (i : Nat) (l : Lk), ls[i]? = some l → (btw ls l.b l.a).isSome = true) : newErr nodes ls = 0 := by
  have hb : backB ls = true := List.all_eq_true.2 fun l hl => by
    obtain ⟨i, hi⟩ := List.getElem?_of_mem hl
    exact h i l hi
  unfold newErr
  rw [hq, hbad, hd, hb]
  rw [if_neg (by decide), if_neg (by omega), if_neg (by decide), if_neg (by decide)]
theorem jump_ret {l : Nat} {J : Act → World → Prop} {Q : Exit → Act → World → Prop} {a : Act} {w : World} : Exit.jump l J Q .ret a w = Q .ret a w := rfl
/-- What holds where 'goto refused' leads. -/
def NewJ (nodes : Int) (ls : List Lk) (w : World) (a' : Act) (w' : World) : Prop :=
  newErr nodes ls ≠ 0 ∧ Below w.heap.size w w' ∧ ∃ (u0 u1 u2 u3 u4 u6 u7 u8 u9 u10 u11 u12 u13 u14 u15 u16 u17 u18 u19 u20 u21 u22 u23 u24 u25 u26 u27 u28 u29 u30 u31 u32 u33 u34 u35 u36 u37 u38 u39 u40 u41 u42 u43 u44 u45 u46 u47 u48 u49 u50 u51 u52 u53 u54 u55 u56 u57 u58 u59 u60 u61 u62 u63 u64 u65 u66 u67 u68 u69 u70 u71 u72 u73 u74 u75 u76 u77 u78 u79 u80 u81 : Value), a' = { tmps := #[u0, u1, u2, u3, u4, .int .i64 (newErr nodes ls), u6, u7, u8, u9, u10, u11, u12, u13, u14, u15, u16, u17, u18, u19, u20, u21, u22, u23, u24, u25, u26, u27, u28, u29, u30, u31, u32, u33, u34, u35, u36, u37, u38, u39, u40, u41, u42, u43, u44, u45, u46, u47, u48, u49, u50, u51, u52, u53, u54, u55, u56, u57, u58, u59, u60, u61, u62, u63, u64, u65, u66, u67, u68, u69, u70, u71, u72, u73, u74, u75, u76, u77, u78, u79, u80, u81], defers := [] }
theorem newJ_mk {nodes : Int} {ls : List Lk} {w w' : World} {n : Int} (he : newErr nodes ls = n) (hn : n ≠ 0) (hb : Below w.heap.size w w') {u0 u1 u2 u3 u4 u6 u7 u8 u9 u10 u11 u12 u13 u14 u15 u16 u17 u18 u19 u20 u21 u22 u23 u24 u25 u26 u27 u28 u29 u30 u31 u32 u33 u34 u35 u36 u37 u38 u39 u40 u41 u42 u43 u44 u45 u46 u47 u48 u49 u50 u51 u52 u53 u54 u55 u56 u57 u58 u59 u60 u61 u62 u63 u64 u65 u66 u67 u68 u69 u70 u71 u72 u73 u74 u75 u76 u77 u78 u79 u80 u81 : Value} :
    NewJ nodes ls w { tmps := #[u0, u1, u2, u3, u4, .int .i64 n, u6, u7, u8, u9, u10, u11, u12, u13, u14, u15, u16, u17, u18, u19, u20, u21, u22, u23, u24, u25, u26, u27, u28, u29, u30, u31, u32, u33, u34, u35, u36, u37, u38, u39, u40, u41, u42, u43, u44, u45, u46, u47, u48, u49, u50, u51, u52, u53, u54, u55, u56, u57, u58, u59, u60, u61, u62, u63, u64, u65, u66, u67, u68, u69, u70, u71, u72, u73, u74, u75, u76, u77, u78, u79, u80, u81], defers := [] } w' := by
  subst he
  exact ⟨hn, hb, _, _, _, _, _, _, _, _, _, _, _, _, _, _, _, _, _, _, _, _, _, _, _, _, _, _, _, _, _, _, _, _, _, _, _, _, _, _, _, _, _, _, _, _, _, _, _, _, _, _, _, _, _, _, _, _, _, _, _, _, _, _, _, _, _, _, _, _, _, _, _, _, _, _, _, _, _, _, _, _, _, rfl⟩

set_option maxRecDepth 100000 in
set_option maxHeartbeats 1000000 in
theorem new_any (nodes : Int) (v : Value) (ls : List Lk) (w : World) (h : SAt Lk.cells 8 w v ls) (hbig : ls.length * 64 ≤ 140737488355328) :
    Calls Try.prog 11 #[.int .i64 nodes, v] w (NewPost nodes ls w) := by
  have hmm := @run_makeMap Try.prog
  go_enter Try.func11, Try.ntmps11
  go_wp2_with fail
  refine wp_scope_jumps 0 (NewJ nodes ls w) (fun _ _ => 0) rfl ?_ ?_
  rotate_left
  · rintro a' w' ⟨hne, hb, u0, u1, u2, u3, u4, u6, u7, u8, u9, u10, u11, u12, u13, u14, u15, u16, u17, u18, u19, u20, u21, u22, u23, u24, u25, u26, u27, u28, u29, u30, u31, u32, u33, u34, u35, u36, u37, u38, u39, u40, u41, u42, u43, u44, u45, u46, u47, u48, u49, u50, u51, u52, u53, u54, u55, u56, u57, u58, u59, u60, u61, u62, u63, u64, u65, u66, u67, u68, u69, u70, u71, u72, u73, u74, u75, u76, u77, u78, u79, u80, u81, rfl⟩
    go_wp2
    rw [jump_ret]
    go_ret2
    exact Or.inr ⟨hne, rfl, hb⟩
  go_upto_region 1 with fail
  go_cut [4] (fun s4 wx => ∃ q, s4 = .pointer (some ⟨q, 0, none⟩) ∧ Made w q w.heap.size nodes ls [] wx)
  case first =>
    go_region_with (go_at_call 30; refine (clone_lk v ls _ (h.below (by repeat (first | exact Below.refl _ _ | refine bl_alloc ?_ _ | refine bl_drew ?_ | refine bl_drewN ?_ _))) hbig).mono ?_; rintro e w' ⟨v', rfl, hs, -, -, hb⟩; obtain ⟨A', c', rfl⟩ := hs.slice; have hq1 := bl_cell hb (b := w.heap.size) (o := 0) (v := .int .i64 nodes) (by go_simp); have hq2 := hb.size; simp at hq2; have hq3 : w.heap.size < w'.heap.size := by omega)
    all_goals (go_wp2_with fail; go_meet)
    all_goals case rel =>
      have hbw : Below w.heap.size w w' := Below.trans (by repeat (first | exact Below.refl _ _ | refine bl_alloc ?_ _ | refine bl_drew ?_ | refine bl_drewN ?_ _)) (hb.mono (by first | (simp; done) | (simp; omega)))
      first
        | exact ⟨_, rfl, made_mk hbw hq3 hq1 hs (MapOf.below (MapOf.made' _ (by simp)).drew hb) (by first | (simp; done) | (simp; omega))⟩
        | exact ⟨_, rfl, made_mk hbw hq3 hq1 hs (MapOf.below (MapOf.made' _ (by simp)) hb) (by first | (simp; done) | (simp; omega))⟩
        | exact ⟨_, by simp, made_mk (bl_alloc hbw _) (by simp; omega) (bl_cell (bl_alloc (Below.refl _ _) _) hq1) (hs.below (bl_alloc (Below.refl _ _) _)) (MapOf.made _) (by omega)⟩
  case rest =>
    obtain ⟨q, rfl, hM⟩ := hcut
    have hM0 := hM
    obtain ⟨hb0, hq0, hbn, c0, v', r, hr0, hrq, d0, d1, d2, hs, hmp⟩ := hM
    have eg : ∀ args w, (callFunc 32 args).run Try.prog w = .ok (.enter 32 args) w := enters_of Try.func32 (by kernel_rfl) rfl
    cases hq : wi nodes 1 16 with
    | false =>
      go_wp2_with (go_at_call 25; refine (within_int _ _ _ _).mono ?_; rintro e w' ⟨rfl, rfl⟩)
      go_step3
      have he : newErr nodes ls = 2 := by simp [newErr, hq]
      exact (show 0 = 0 ∧ NewJ nodes ls w _ _ from ⟨rfl, newJ_mk he (by decide) (hb0)⟩)
    | true =>
      have hh := any_lk 32 #[.pointer (some ⟨w.heap.size, 0, none⟩)] eg v ls (fun l => !okLink l nodes) wc (h.below hb0) (fun W x _ hW => new1_any x nodes w.heap.size W (World.block_lt_of_cell? W ⟨_, 0, none⟩ (bl_cell hW c0)) (bl_cell hW c0))
      generalize hbad : (ls.any fun l => !okLink l nodes) = bad at hh
      have HBAD := Lib.hid hbad
      clear hbad
      cases bad with
      | true =>
        go_wp2_with (first | (go_at_call 25; refine (within_int _ _ _ _).mono ?_; rintro e w' ⟨rfl, rfl⟩) | (go_at_call 31; refine hh.mono ?_; rintro e w' ⟨rfl, hb1⟩))
        go_step3
        have he : newErr nodes ls = 2 := by simp [newErr, hq, HBAD.out]
        exact (show 0 = 0 ∧ NewJ nodes ls w _ _ from ⟨rfl, newJ_mk he (by decide) (bl_then hb0 hb1)⟩)
      | false =>
        by_cases hlen : 48 < ls.length
        · have hv : ∃ A c, v = .slice A ls.length c := h.slice
          obtain ⟨A, c, rfl⟩ := hv
          go_wp2_with (first | (go_at_call 25; refine (within_int _ _ _ _).mono ?_; rintro e w' ⟨rfl, rfl⟩) | (go_at_call 31; refine hh.mono ?_; rintro e w' ⟨rfl, hb1⟩))
          go_step3
          have he : newErr nodes ls = 3 := by simp [newErr, hq, HBAD.out, hlen]
          exact (show 0 = 0 ∧ NewJ nodes ls w _ _ from ⟨rfl, newJ_mk he (by decide) (bl_then hb0 hb1)⟩)
        · have hv : ∃ A c, v = .slice A ls.length c := h.slice
          obtain ⟨A, c, rfl⟩ := hv
          go_wp2_with (first | (go_at_call 25; refine (within_int _ _ _ _).mono ?_; rintro e w' ⟨rfl, rfl⟩) | (go_at_call 31; refine hh.mono ?_; rintro e w' ⟨rfl, hb1⟩))
          have hgetD : ∀ j, j < ls.length → ls[j]? = some (ls.getD j Lk0) := fun j hj => by simp [List.getD, hj]
          have hl48 : ls.length ≤ 48 := by omega
          have H := Lib.hid h
          have HM0 := Lib.hid (hM0.step hb1)
          have HG := Lib.hid hgetD
          clear h hM0 hb0 c0 d0 d1 d2 hs hmp hgetD hb1 hlen hh eg hmm
          go_loopg [35] ls.length (fun gg s35 wr => ∃ kk : Nat, kk ≤ ls.length ∧ ls.length - kk ≤ gg ∧ s35 = .int .i64 kk ∧ Aside (Made w q w.heap.size nodes ls (idxs (ls.take kk)) wr) ∧ Aside (∀ i, i < kk → mget (idxs (ls.take i)) ((ls.getD i Lk0).a, (ls.getD i Lk0).b) = none))
          case atStart => exact ⟨0, Nat.zero_le _, by omega, rfl, HM0.out, fun i hi => absurd hi (Nat.not_lt_zero _)⟩
          case round =>
            obtain ⟨kk, hkk, hgg, rfl, HM, HD⟩ := hrel
            by_cases hlt : kk < ls.length
            · obtain ⟨hb0, hq0, hbn, c0, v', r, hr0, hrq, d0, d1, d2, hs, hmp⟩ := HM.out
              have hgk := HG.out kk hlt
              generalize hlk : ls.getD kk Lk0 = l at hgk
              rcases H.out.below hb0 with ⟨h1, h2⟩ | ⟨b, o, c', h1, _, _, hrow⟩
              · subst h2; simp at hlt
              · have hA : A = some ⟨b, o, none⟩ := by injection h1
                obtain ⟨e0, e1, e2, e3, e4, e5, e6, e7⟩ := LkAt.ofRow hrow hgk
                have hbs : b < wr.heap.size := World.block_lt_of_cell? wr ⟨b, o + kk * 8, none⟩ e0
                have hqs : q < wr.heap.size := World.block_lt_of_cell? wr ⟨q, 0, none⟩ d0
                subst hA
                clear h1 hrow
                have hltz : (kk : Int) < (ls.length : Int) := by omega
                have HK := Lib.hid hgk
                have HL := Lib.hid hlk
                clear hgk hlk
                have hbw : Below wr.heap.size wr ((wr.alloc (.cells #[.int .i64 l.a, .int .i64 l.b, .int .i64 l.c, .int .i64 l.d, .int .i64 l.e, .int .i64 l.f, .int .i64 l.g, .int .i64 l.h] 23)).alloc (.cells #[.int .i64 l.a, .int .i64 l.b] 29)) := bl_alloc (bl_alloc (Below.refl _ _) _) _
                have hlook := run_look klaw2 Try.underlying55 (zeroI _) (hmp.below hbw) (l.a, l.b) true
                have hlookN := fun nq => run_look klaw2 Try.underlying55 (zeroI _) (hmp.below (bl_drewN hbw nq)) (l.a, l.b) true
                simp only [enc2, if_true] at hlook hlookN
                cases hget : mget (idxs (ls.take kk)) (l.a, l.b) with
                | some z =>
                  rw [hget] at hlook hlookN
                  simp only [Option.getD_some, Option.isSome_some] at hlook hlookN
                  have HGET := Lib.hid hget
                  clear hget hs hmp
                  go_wp2_with fail
                  go_quiet (fail)
                  go_wp2_with fail
                  go_step3
                  have he := newErr_dup hq HBAD.out hl48 kk hlt (by rw [HL.out, HGET.out]; rfl)
                  exact (show 0 = 0 ∧ NewJ nodes ls w _ _ from ⟨rfl, newJ_mk he (by decide) (by repeat (first | assumption | refine bl_drewN ?_ _ | refine bl_drew ?_ | exact bl_then hb0 hbw))⟩)
                | none =>
                  rw [hget] at hlook hlookN
                  simp only [Option.getD_none, Option.isSome_none] at hlook hlookN
                  have HGET := Lib.hid hget
                  have HS := Lib.hid hs
                  have HMP := Lib.hid hmp
                  clear hget hs hmp
                  go_wp2_with fail
                  go_quiet (fail)
                  go_wp2_with fail
                  generalize hW2 : ((wr.alloc (.cells #[.int .i64 l.a, .int .i64 l.b, .int .i64 l.c, .int .i64 l.d, .int .i64 l.e, .int .i64 l.f, .int .i64 l.g, .int .i64 l.h] 23)).alloc (.cells #[.int .i64 l.a, .int .i64 l.b] 29)).drewN nq = W2
                  have hb2 : Below wr.heap.size wr W2 := hW2 ▸ bl_drewN hbw nq
                  have hm2 := Lib.hid (HMP.out.below hb2)
                  have g2 := bl_cell hb2 d2
                  have gk0 : W2.cell? ⟨wr.heap.size + 1, 0, none⟩ = some (.int .i64 l.a) := by rw [← hW2]; show World.cell? (World.alloc _ _) _ = _; go_simp
                  have gk1 : W2.cell? ⟨wr.heap.size + 1, 1, none⟩ = some (.int .i64 l.b) := by rw [← hW2]; show World.cell? (World.alloc _ _) _ = _; go_simp
                  have HB2 := Lib.hid hb2
                  clear hW2 hlook hlookN hb2
                  go_still_tail 6, (by kernel_rfl)
                  change wpList _ _ _ _ _ W2.drew
                  refine wpList_store rfl _ _ _ rfl klaw2 Try.underlying55 hm2.out.drew (l.a, l.b) (.int .i64 kk) rfl rfl rfl ?_
                  intro w3 hm3 hg3 _
                  have HM3 := Lib.hid hm3
                  have HG3 := Lib.hid hg3
                  clear hm3 hg3 hm2 g2 gk0 gk1
                  go_wp2
                  go_roundg (ls.length - (kk + 1))
                  case measure => omega
                  case rel =>
                    have hb2d : Below wr.heap.size wr W2.drew := bl_drew HB2.out
                    have hck : CellsKept W2.drew w3 := by
                      obtain ⟨es, cl, hh, _⟩ := (HMP.out.below hb2d)
                      exact cellsKept_map hh HG3.out
                    have hm3 := HM3.out
                    rw [idxs_put HGET.out HK.out] at hm3
                    refine ⟨kk + 1, by omega, by omega, by go_num, Made.store (bl_then hb0 hb2d) hq0 hbn (bl_cell hb2d c0) hr0 hrq (bl_cell hb2d d0) (bl_cell hb2d d1) (bl_cell hb2d d2) (HS.out.below hb2d) hck HG3.out hm3, (show Aside _ from fun j hj => ?_)⟩
                    by_cases e : j = kk
                    · subst e
                      rw [HL.out]
                      exact HGET.out
                    · exact HD.out j (by omega)
            · have hltz : ¬ (kk : Int) < (ls.length : Int) := by omega
              have hke : kk = ls.length := by omega
              subst hke
              have hfull := HM.out
              rw [List.take_length] at hfull
              have HF := Lib.hid hfull
              have HN := Lib.hid (nodup_of HD.out)
              clear hfull HM HD HM0
              go_wp2_with fail
              go_loopg [64] ls.length (fun gg s64 wr => ∃ kk : Nat, kk ≤ ls.length ∧ ls.length - kk ≤ gg ∧ s64 = .int .i64 kk ∧ Aside (Made w q w.heap.size nodes ls (idxs ls) wr) ∧ Aside (∀ i (l : Lk), i < kk → ls[i]? = some l → (btw ls l.b l.a).isSome = true))
              case atStart => exact ⟨0, Nat.zero_le _, by omega, rfl, HF.out, fun i l hi => absurd hi (Nat.not_lt_zero _)⟩
              case round =>
                clear HF
                obtain ⟨kk, hkk, hgg, rfl, HM, HD⟩ := hrel
                by_cases hlt : kk < ls.length
                · have hT := HM.out.tmap
                  have hgk := HG.out kk hlt
                  generalize ls.getD kk Lk0 = l at hgk
                  rcases H.out.below HM.out.1 with ⟨h1, h2⟩ | ⟨b, o, c', h1, _, _, hrow⟩
                  · subst h2; simp at hlt
                  · have hA : A = some ⟨b, o, none⟩ := by injection h1
                    obtain ⟨e0, e1, e2, e3, e4, e5, e6, e7⟩ := LkAt.ofRow hrow hgk
                    have hbs : b < wr.heap.size := World.block_lt_of_cell? wr ⟨b, o + kk * 8, none⟩ e0
                    subst hA
                    clear h1 hrow
                    have hltz : (kk : Int) < (ls.length : Int) := by omega
                    have HK := Lib.hid hgk
                    clear hgk
                    have hbw : Below wr.heap.size wr (wr.alloc (.cells #[.int .i64 l.a, .int .i64 l.b, .int .i64 l.c, .int .i64 l.d, .int .i64 l.e, .int .i64 l.f, .int .i64 l.g, .int .i64 l.h] 23)) := bl_alloc (Below.refl _ _) _
                    have hcall := between_any q nodes ls l.b l.a _ (hT.below hbw)
                    generalize hz : (btw ls l.b l.a).getD (.int .i64 0) = z at hcall
                    cases hsome : (btw ls l.b l.a).isSome with
                    | true =>
                      rw [hsome] at hcall
                      have HSOME := Lib.hid hsome
                      clear hsome hz hT
                      go_wp2_with (go_at_call 12; refine hcall.mono ?_; rintro e w' ⟨rfl, rfl⟩)
                      go_roundg (ls.length - (kk + 1))
                      case measure => omega
                      case rel =>
                        refine ⟨kk + 1, by omega, by omega, by go_num, HM.out.step hbw, (show Aside _ from fun j l' hj hl' => ?_)⟩
                        by_cases e : j = kk
                        · subst e
                          have : l = l' := Option.some.inj (HK.out.symm.trans hl')
                          rw [← this]
                          exact HSOME.out
                        · exact HD.out j l' (by omega) hl'
                    | false =>
                      rw [hsome] at hcall
                      have HSOME := Lib.hid hsome
                      clear hsome hz hT
                      go_wp2_with (go_at_call 12; refine hcall.mono ?_; rintro e w' ⟨rfl, rfl⟩)
                      go_step3
                      have he := newErr_back hq HBAD.out hl48 HN.out kk l HK.out (Option.not_isSome_iff_eq_none.1 (by rw [HSOME.out]; decide))
                      exact (show 0 = 0 ∧ NewJ nodes ls w _ _ from ⟨rfl, newJ_mk he (by decide) (bl_then HM.out.1 hbw)⟩)
                · have hltz : ¬ (kk : Int) < (ls.length : Int) := by omega
                  have hke : kk = ls.length := by omega
                  subst hke
                  go_wp2_with fail
                  rw [jump_ret]
                  go_ret2
                  have he := newErr_ok hq HBAD.out hl48 HN.out (fun i l hi => HD.out i l (List.getElem?_eq_some_iff.1 hi).1 hi)
                  exact Or.inl ⟨he, q, rfl, HM.out.tmap, HM.out.1⟩
end Go.Proofs.Ytfifmkjidljeeaa
