/- Object: Parse, walked. -/
import Derived.Test.YtnflgikmljfakaaObjT
import Derived.Test.YtnflgikmljfakaaRnd
import Derived.Maps.OwnIn
namespace Go.Proofs.Ytnflgikmljfakaa
open Go Go.RowKit Go.Shelf
set_option linter.unusedVariables false
set_option linter.unusedSimpArgs false
attribute [local go_sem] Oper.semAt_some
theorem sat_low {α : Type} {enc : α → List Value} {k : Nat} {w X : World} {v : Value} {xs : List α} (h : SAt enc k w v xs) (hX : ∀ i, i < w.heap.size → X.heap[i]? = w.heap[i]?) : SAt enc k X v xs := by
  rcases h with h | ⟨b, o, c, h1, h2, h3, h4⟩
  · exact Or.inl h
  · exact Or.inr ⟨b, o, c, h1, h2, h3, fun j x hj i u hi => (World.cell?_of_block (hX b (World.block_lt_of_cell? w ⟨b, _, none⟩ (h4 j x hj i u hi)))).trans (h4 j x hj i u hi)⟩
theorem kp_app {W w1 : World} {b0 B0 M : Nat} {v v' : Value} {xs : List Value} {tmp : Obj} (hv : Boxed W b0 22 v) (hrow : W.ownsRow B0 32 3 v M xs) (hB : b0 ≤ B0) (hgrow : (W.alloc tmp).grownBy w1 v.ownBlock) : KpP b0 W (w1.setCell ⟨b0, 0, none⟩ v') := by
  have hk : ∀ i, i < W.heap.size → v.ownBlock ≠ some i → i ≠ b0 → (w1.setCell ⟨b0, 0, none⟩ v').heap[i]? = W.heap[i]? := fun i hi h1 h2 =>
    (Below.heap_setCell _ _ _ i h2).trans ((hgrow.block i (by simp; omega) fun e => h1 e.symm).trans (Below.heap_alloc W tmp i hi))
  refine ⟨fun i hi => hk i (by have := hv.lt; omega) (fun e => ?_) (by omega), ?_, fun i cur t fr h1 h2 h3 => (hk i (Array.getElem?_eq_some_iff.1 h3).1 (fun e => ?_) fun e => ?_).trans h3⟩
  · rcases hrow.2 with ⟨rfl, _⟩ | ⟨g, cap, cur, rfl, hb, _, _⟩
    · simp [Value.ownBlock] at e
    · obtain rfl : g = i := by simpa [Value.ownBlock] using e
      omega
  · have := hgrow.size
    simp [World.setCell] at this ⊢
    omega
  · rcases hrow.2 with ⟨rfl, _⟩ | ⟨g, cap, cur', rfl, hb, hg, _⟩
    · simp [Value.ownBlock] at e
    · obtain rfl : g = i := by simpa [Value.ownBlock] using e
      rw [h3] at hg
      cases hg
      exact h1 rfl
  · subst e
    rw [hv] at h3
    cases h3
    exact h2 rfl
theorem elO : ElT Try.prog 22 32 3 40 (.agg #[.int .i64 0, .int .i64 0, .slice none 0 0]) := ElT.mk' Try.underlying22 (by kernel_rfl) rfl (by decide)
set_option maxRecDepth 100000 in
set_option maxHeartbeats 2000000 in
theorem parse_any (A : Option Addr) (c : Nat) (bs : List Int) (w : World) (hs : SAt yC 1 w (.slice A bs.length c) bs) (hin : BytesIn bs) (hlen : bs.length ≤ 65536) :
    Calls Try.prog 11 #[.slice A bs.length c] w (ParseR bs w) := by
  refine callsIn_wide (n := 12) |>.1 ?_
  refine calls_of_wpAt Try.func11 rfl ?_
  simp only [Try.ntmps11, List.size_toArray, List.length_cons, List.length_nil, Nat.reduceAdd, Nat.reduceSub, Array.replicate_succ, Array.replicate_zero, List.push_toArray, List.append_toArray, List.nil_append, List.cons_append]
  have hz : ¬ (65536 : Int) < (bs.length : Int) := by omega
  have HS := Lib.hid hs
  have HIN := Lib.hid hin
  clear hs hin
  refine wpAt_seq_k fun K hK => ?_
  go_wp2_with fail
  obtain ⟨W2, hW2⟩ : ∃ W2, ((w.alloc (.cells #[.slice none 0 0] 22)).alloc (.cells #[.int .i64 0] 26)) = W2 := ⟨_, rfl⟩
  have hx2 : Boxed W2 w.heap.size 22 (.slice none 0 0) := by rw [← hW2]; exact (Below.heap_alloc _ _ _ (by simp)).trans (new_block _ _)
  have hx3 : Boxed W2 (w.heap.size + 1) 26 (.int .i64 0) := by
    rw [← hW2]
    have := new_block (w.alloc (.cells #[.slice none 0 0] 22)) (.cells #[.int .i64 0] 26)
    rw [World.size_alloc] at this
    exact this
  have hb2 : Below w.heap.size w W2 := by rw [← hW2]; exact bl_alloc (bl_alloc (Below.refl _ _) _) _
  have hz2 : W2.heap.size = w.heap.size + 2 := by rw [← hW2]; simp
  rw [hW2]
  clear hW2
  have HX2 := Lib.hid hx2
  have HX3 := Lib.hid hx3
  have HB2 := Lib.hid hb2
  have HZ2 := Lib.hid hz2
  clear hx2 hx3 hb2 hz2
  refine wpAt_seq_k fun K hK => ?_
  go_wp2_with fail
  refine wpAt_seq_k fun K hK => ?_
  go_wp2_with fail
  refine wpAt_seq ?_
  refine wpAt_seq_k fun K hK => ?_
  go_wp2_with (go_at_call 22; refine (objs_any _ _ _ _).mono ?_; rintro e w3 ⟨rfl, hw3⟩; have HW3 := Lib.hid hw3; clear hw3)
  have hW3 := HW3.out
  have hpb : w3.heap[W2.heap.size]? = some (.cells #[.slice A bs.length c] 25 (0, 0)) := by rw [hW3]; exact new_block _ _
  have hb3 : Below W2.heap.size W2 w3 := by rw [hW3]; exact bl_alloc (Below.refl _ _) _
  have hz3 : w3.heap.size = w.heap.size + 3 := by rw [hW3]; simp; exact HZ2.out
  have HB3 := Lib.hid (And.intro hb3 hz3)
  have hseq := objs_pan 11 (by omega) W2.heap.size w.heap.size A c bs w3 (by omega) hpb (fun X hX => sat_low HS.out fun i hi => (hX i hi).trans ((hb3.block i (by have := HZ2.out; omega)).trans (HB2.out.block i hi))) HIN.out hlen
  clear hpb hb3 hW3 HW3
  refine wpAt_block ?_
  refine wpAt_rangePan (n := 12) Try.func11 rfl (fun _ _ => rfl) hseq (fun A B i o h hi hc => h.2 i o hi fun cur fr e => by rw [e] at hc; cases hc) kpP_t (kpP_put (by omega)) (Below.refl _ _) (fun _ => rfl) (ParI bs w w3.heap.size) (fun _ _ _ => False) (ParP bs w w3.heap.size) ?hI (fun _ _ _ _ _ h _ _ => h) ?hIp ?hIs (fun _ _ _ _ h _ => h) ?hIps ?h0
    (fun pre x a1 W => XP bs pre x W ∧ ∃ Bx, a1 = { tmps := #[.slice A bs.length c, undef, .pointer (some ⟨w.heap.size, 0, none⟩), .pointer (some ⟨w.heap.size + 1, 0, none⟩), .pointer (some ⟨Bx, 0, none⟩), .slice A bs.length c, .int .i64 bs.length, .bool (decide ((65536 : Int) < (bs.length : Int))), .func (.func 21) #[] #[.pointer (some ⟨w.heap.size, 0, none⟩), .pointer (some ⟨w.heap.size + 1, 0, none⟩)], .slice A bs.length c, .func (.func 36) #[] #[.pointer (some ⟨W2.heap.size, 0, none⟩)], x.val, undef, undef, undef, undef, undef, undef, undef, undef, undef], defers := [] } ∧ W.heap[Bx]? = some (.cells #[.int .i64 x.c, .int .i64 x.t, x.v] 32 (0, 0)) ∧ w3.heap.size ≤ Bx) ?hE ?hassign ?hbody ?hdone ?hstop ?hdie ?hpan
  case hI => exact fun s X Y row h hg hr => h.move (parM_own (by omega) h.2.2.2.1.size hg hr)
  case hIp => exact fun ch s X Y row h hg hr => h.move (parM_own (by omega) h.2.2.2.1.size hg hr)
  case hIs => exact fun s X Y h hst => h.move (parM_st (by omega) hst)
  case hIps => exact fun ch s X Y h hst => h.move (parM_st (by omega) hst)
  case h0 => exact ⟨⟨_, (HB3.out.1.block _ (by have := HZ2.out; omega)).trans HX2.out, World.ownsRow_nil _ _ _ _⟩, (HB3.out.1.block _ (by have := HZ2.out; omega)).trans HX3.out, fun q hq => (by cases hq), HB2.out.trans (HB3.out.1.mono HB2.out.size), Nat.le_refl _, by simp, _, rfl⟩
  case hE =>
    rintro pre x a1 W l o o' hl ho hc ⟨⟨hx1, hx2⟩, Bx, rfl, hb, hBx⟩
    have hk : ∀ (i : Nat) (cur : Array Value) (t : TypeId), W.heap[i]? = some (.cells cur t (0, 0)) → (W.putObj l o').heap[i]? = some (.cells cur t (0, 0)) := fun i cur t h => by
      have hne : i ≠ l := by
        rintro rfl
        rw [h] at ho
        cases ho
        cases hc
      exact (World.putObj_heap_other hne).trans h
    exact ⟨⟨hx1, hx2.kept fun i cur hi => hk _ _ _ hi⟩, Bx, rfl, hk _ _ _ hb, hBx⟩
  case hassign =>
    rintro l pre x W K hi ⟨hx1, hx2⟩ hK
    have hba := bl_alloc (Below.refl W.heap.size W) (.cells #[.int .i64 x.c, .int .i64 x.t, x.v] 32)
    have h1 := hK { tmps := #[.slice A bs.length c, undef, .pointer (some ⟨w.heap.size, 0, none⟩), .pointer (some ⟨w.heap.size + 1, 0, none⟩), .pointer (some ⟨W.heap.size, 0, none⟩), .slice A bs.length c, .int .i64 bs.length, .bool (decide ((65536 : Int) < (bs.length : Int))), .func (.func 21) #[] #[.pointer (some ⟨w.heap.size, 0, none⟩), .pointer (some ⟨w.heap.size + 1, 0, none⟩)], .slice A bs.length c, .func (.func 36) #[] #[.pointer (some ⟨W2.heap.size, 0, none⟩)], x.val, undef, undef, undef, undef, undef, undef, undef, undef, undef], defers := [] } (W.alloc (.cells #[.int .i64 x.c, .int .i64 x.t, x.v] 32)) (KeepsOthers.alloc _ _) (kpP_below hba (by have := hi.2.2.2.1.size; omega)) (hi.move ⟨hba.mono hi.2.2.2.1.size, fun i cur t fr _ h => (hba.block i (Array.getElem?_eq_some_iff.1 h).1).trans h⟩)
      ⟨⟨hx1, hx2.kept fun i cur h => (hba.block i (Array.getElem?_eq_some_iff.1 h).1).trans h⟩, W.heap.size, rfl, new_block _ _, hi.2.2.2.2.1⟩
    obtain ⟨b9, ho9⟩ := hx2
    obtain ⟨Av, cv, hv⟩ := own_form ho9
    clear ho9 hK hx1 hba hi
    simp only [Ob.val, hv] at h1 ⊢
    gi_wp2
    exact h1
  case hbody =>
    have HZ3 := Lib.hid hz3
    clear hz3
    rintro l pre x a1 W ⟨⟨V, i1, i2⟩, i3, i4, i5, i6, i7, i8⟩ ⟨hx, Bx, rfl, hb, hBx⟩ hlt
    obtain ⟨AV, cV, rfl⟩ := own_form i2
    obtain ⟨b9, ho9⟩ := hx.2
    obtain ⟨Av, cv, hv⟩ := own_form ho9
    clear ho9
    obtain ⟨⟨x0, x1, x2⟩, -⟩ := cells3 hb
    rw [hv] at x2
    have c0 := i1.cell
    have f0 := i1.frozen
    obtain ⟨M, hM⟩ : ∃ M, M = pre.length := ⟨_, rfl⟩
    have HB := Lib.hid (And.intro i1 (And.intro i2 (And.intro i3 (And.intro i4 (And.intro i5 (And.intro i6 (And.intro i7 (And.intro i8 (And.intro hx hb)))))))))
    rw [← hM] at c0
    have HM := Lib.hid hM
    have hV := Lib.hid hv
    have hml : M ≤ 40 := by omega
    rw [← hM] at i2
    have hown := i2
    have hzw : w3.heap.size ≤ W.heap.size := i6
    clear i1 i2 i3 i4 i5 i6 i7 i8 hx hb hM hseq hv
    have hxv : x.val = .agg #[.int .i64 x.c, .int .i64 x.t, .slice Av x.ws.length cv] := by simp only [Ob.val]; rw [hV.out]
    rw [hxv]
    clear hxv
    obtain ⟨i0, hi, hz0, hz1, hzz⟩ := elO.hi
    gi_wp2_with (gi_at_builtin; refine wpListIn_append_own_at _ rfl _ _ 22 rfl w3.heap.size 32 i0 (.agg #[.int .i64 0, .int .i64 0, .slice none 0 0]) 3 40 Try.underlying22 hi hz0 hz1 hzz rfl (by decide) _ _ _ rfl (own_alloc hown _) ⟨W.heap.size, 0, none⟩ 1 1 [.int .i64 x.c, .int .i64 x.t, .slice Av x.ws.length cv] rfl rfl ?qc2 ?qc3 ?qc4 ?qc5 ?qc6 ?_)
    case qc2 => exact fun j' u hj' => by rw [Addr.add_lit]; exact RowAt.flat (enc := Ob.cells) (k := 3) (fun _ => rfl) (rowAt_new (enc := Ob.cells) (k := 3) (fun _ => rfl) W 32 [x] (b := W.heap.size) rfl (by simp [Ob.cells, hV.out])) j' u (by simpa [Ob.cells, hV.out] using hj')
    case qc3 => exact fun u hu => by simp at hu; rcases hu with rfl | rfl | rfl <;> rfl
    case qc4 => unfold maxLen; omega
    case qc5 => omega
    case qc6 => simp; omega
    intro v' w1 hown' hgrow _ hblk
    obtain ⟨A6, c6, rfl⟩ := own_form hown'
    have hbx : Boxed W w.heap.size 22 (.slice AV M cV) := by rw [HM.out]; exact HB.out.1
    obtain ⟨q1, q2, q3, q4, q5, q6⟩ := box_appended hbx (by decide) hown hzw hown' hgrow
    have hkp : KpP w.heap.size W (w1.setCell ⟨w.heap.size, 0, none⟩ (.slice A6 (M + 1) c6)) := kp_app hbx hown (by have := HZ3.out; omega) hgrow
    have hrow : (w1.setCell ⟨w.heap.size, 0, none⟩ (.slice A6 (M + 1) c6)).ownsRow w3.heap.size 32 3 (.slice A6 (M + 1) c6) (pre ++ [x]).length ((pre ++ [x]).flatMap Ob.cells) := by
      have e1 : (pre ++ [x]).length = M + 1 := by rw [HM.out]; simp
      have e2 : (pre ++ [x]).flatMap Ob.cells = pre.flatMap Ob.cells ++ [.int .i64 x.c, .int .i64 x.t, .slice Av x.ws.length cv] := by simp [Ob.cells, hV.out]
      rw [e1, e2]
      exact q3
    have k0 := q1.cell
    have k1 := q1.frozen
    have k2 := q2.cell
    rw [show min w.heap.size w3.heap.size = w.heap.size by have := HZ3.out; omega] at q6
    have hfin : Boxed (w1.setCell ⟨w.heap.size, 0, none⟩ (.slice A6 (M + 1) c6)) (w.heap.size + 1) 26 (.int .i64 0) ∧ (∀ q ∈ pre ++ [x], WsIn (w1.setCell ⟨w.heap.size, 0, none⟩ (.slice A6 (M + 1) c6)) q.v q.ws) ∧ Below w.heap.size w (w1.setCell ⟨w.heap.size, 0, none⟩ (.slice A6 (M + 1) c6)) ∧ w3.heap.size ≤ (w1.setCell ⟨w.heap.size, 0, none⟩ (.slice A6 (M + 1) c6)).heap.size ∧ ∃ more, (pre ++ [x]).map Ob.key ++ more = (rd bs).1 := by
      obtain ⟨-, -, i3, i4, i5, i6, -, -, ⟨⟨more, i8⟩, i9⟩, -⟩ := HB.out
      refine ⟨hkp.2.2 _ _ _ _ (by decide) (by decide) i3, fun q hq => ?_, i5.trans q6, Nat.le_trans i6 q6.size, more, by rw [← i8]; simp⟩
      rcases List.mem_append.1 hq with hq | hq
      · exact (i4 q hq).kept fun i cur h => hkp.2.2 _ _ _ _ (by decide) (by decide) h
      · simp only [List.mem_singleton] at hq
        subst hq
        exact i9.kept fun i cur h => hkp.2.2 _ _ _ _ (by decide) (by decide) h
    have HF := Lib.hid (And.intro q2 (And.intro q4 (And.intro hkp (And.intro hrow hfin))))
    clear q1 q2 q3 q4 q5 q6 hkp hrow hfin hown hown' hgrow hblk hbx x0 x1 x2 c0 f0 hi hz0 hz1 hzz
    by_cases hm : M + 1 ≤ 40
    · have hmz : ((M : Nat) : Int) + 1 ≤ 40 := by omega
      gi_wp2_with fail
      refine ⟨trivial, CallsIn.mono (CallsIn.inRound l (callsIn_wide.2 (must_yes _))) ?_⟩
      rintro e w' ⟨rfl, rfl⟩
      gi_wp2_with fail
      obtain ⟨q2, q4, hkp, hrow, h1, h2, h3, h4, h5⟩ := HF.out
      exact ⟨q4, hkp, ⟨_, q2, hrow⟩, h1, h2, h3, h4, (by rw [List.length_append]; have := HM.out; simp; omega), h5⟩
    · have hmz : ¬ ((M : Nat) : Int) + 1 ≤ 40 := by omega
      gi_wp2_with fail
      refine ⟨trivial, CallsIn.mono (CallsIn.inRound l (callsIn_wide.2 (must_no _))) ?_⟩
      rintro e w' ⟨rfl, rfl⟩
      obtain ⟨q2, q4, hkp, hrow, h1, h2, h3, h4, h5⟩ := HF.out
      exact ⟨rfl, q4, rfl, ⟨_, q2⟩, h1, h3, h4, (by rw [List.length_append]; have := HM.out; simp; omega), h5⟩
  case hdone =>
    rintro D xs W hD ⟨hS1, hS2⟩ ⟨⟨V, i1, i2⟩, i3, i4, i5, i6, i7, i8⟩ hd
    have hp : parseO bs = some (xs.map Ob.key) := by
      unfold parseO
      rw [if_pos ⟨hS2, by rw [← hS1, List.length_map]; exact i7⟩, hS1]
    obtain ⟨AV, cV, rfl⟩ := own_form i2
    have hdl := (Array.getElem?_eq_some_iff.1 hd).1
    have hne : w.heap.size ≠ D := by
      rintro rfl
      rw [i1] at hd
      cases hd
    have hne2 : w.heap.size + 1 ≠ D := by
      rintro he
      rw [← he] at hd
      rw [i3] at hd
      cases hd
    have hk : ∀ (i : Nat) (o : Obj), i ≠ w.heap.size → i ≠ w.heap.size + 1 → W.heap[i]? = some o → ((W.setCell ⟨w.heap.size, 0, none⟩ (.slice AV xs.length cV)).setCell ⟨w.heap.size + 1, 0, none⟩ (.int .i64 0)).heap[i]? = some o := fun i o h1 h2 h => ((But.set _ 0 _ _).block i h2).trans (((But.set _ 0 W _).block i h1).trans h)
    have hV : Boxed ((W.setCell ⟨w.heap.size, 0, none⟩ (.slice AV xs.length cV)).setCell ⟨w.heap.size + 1, 0, none⟩ (.int .i64 0)) w.heap.size 22 (.slice AV xs.length cV) := ((But.set _ 0 _ _).block _ (by omega)).trans (set_one i1 _)
    have hE : Boxed ((W.setCell ⟨w.heap.size, 0, none⟩ (.slice AV xs.length cV)).setCell ⟨w.heap.size + 1, 0, none⟩ (.int .i64 0)) (w.heap.size + 1) 26 (.int .i64 0) := set_one (((But.set _ 0 W _).block _ (by omega)).trans i3) _
    have hfin : LeavesInM Fence.wide 12 Try.prog Try.f11 #[.slice A bs.length c, undef, .pointer (some ⟨w.heap.size, 0, none⟩), .pointer (some ⟨w.heap.size + 1, 0, none⟩), undef, .slice A bs.length c, .int .i64 bs.length, .bool (decide ((65536 : Int) < (bs.length : Int))), .func (.func 21) #[] #[.pointer (some ⟨w.heap.size, 0, none⟩), .pointer (some ⟨w.heap.size + 1, 0, none⟩)], .slice A bs.length c, .func (.func 36) #[] #[.pointer (some ⟨W2.heap.size, 0, none⟩)], undef, undef, undef, undef, undef, undef, undef, undef, undef, .slice AV xs.length cV] (ParseR bs w) (parD w D) .returning ((W.setCell ⟨w.heap.size, 0, none⟩ (.slice AV xs.length cV)).setCell ⟨w.heap.size + 1, 0, none⟩ (.int .i64 0)) :=
      leave_yes bs w _ D w3.heap.size xs _ _ rfl rfl (hk D _ hne.symm hne2.symm hd) (by omega) hp (by omega) hV (own_kept i2 fun i cur hi h => hk i _ (by omega) (by omega) h) hE (fun q hq => (i4 q hq).kept fun i cur h => hk i _ (fun e => by rw [e, i1] at h; cases h) (fun e => by rw [e, i3] at h; cases h) h) (bl_set (bl_set i5 (Nat.le_refl _) _) (Nat.le_succ _) _)
    have c0 := i1.cell
    have f0 := i1.frozen
    have c1 := i3.cell
    have f1 := i3.frozen
    have c1' : (W.setCell ⟨w.heap.size, 0, none⟩ (.slice AV xs.length cV)).cell? ⟨w.heap.size + 1, 0, none⟩ = some (.int .i64 0) := (But.set _ 0 W _).cell c1 (by omega)
    have HF := Lib.hid hfin
    clear hfin hV hE hk i1 i2 i3 i4 i5 i6 i7 i8 hp hd hS1 hS2 hseq
    refine wpAt_wp ?_
    go_wp2_with fail
    exact HF.out
  case hstop => exact fun _ _ _ _ _ _ h _ => h.elim
  case hdie =>
    rintro D ch pre W hD ⟨rfl, hS⟩ ⟨⟨V, i1, i2⟩, i3, i4, i5, i6, i7, i8⟩ hd
    exact leave_no bs w W D V _ rfl rfl hd (by omega) (by unfold parseO; rw [if_neg (by rw [hS]; simp)]) i1 i3 i5
  case hpan =>
    rintro D ch pre W hD ⟨rfl, ⟨V, i1⟩, i3, i5, i6, i7, more, i8⟩ hd
    refine leave_no bs w W D V _ rfl rfl hd (by omega) ?_ i1 i3 i5
    unfold parseO
    rw [if_neg]
    rintro ⟨-, h⟩
    rw [← i8, List.length_append, List.length_map] at h
    omega
end Go.Proofs.Ytnflgikmljfakaa
