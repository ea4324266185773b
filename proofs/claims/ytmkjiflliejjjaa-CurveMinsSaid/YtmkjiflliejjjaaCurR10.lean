/- Curve: the document's Least: may a line go? One region, case by case. (Printed by gen_r10.py.) -/
import Derived.Test.YtmkjiflliejjjaaCurU
import Derived.Test.YtmkjiflliejjjaaLex
namespace Go.Proofs.Ytmkjiflliejjjaa
open Go.RowKit Go.Shelf Go.Sort
set_option linter.unusedVariables false
set_option linter.unusedSimpArgs false
attribute [local go_sem] Oper.semAt_some
/-- The region of a number in a text. -/
def regionOf (k : Nat) : Code → Option Code
  | .region i ops d => if i = k then some (.region i ops d) else none
  | .seq a b => match regionOf k a with
    | some c => some c
    | none => regionOf k b
  | .loop c => regionOf k c
  | .block _ c => regionOf k c
  | .scope c => regionOf k c
  | .cond _ a b => match regionOf k a with
    | some c => some c
    | none => regionOf k b
  | _ => none
noncomputable def r10 : Code := ((Try.f35.body.bind (regionOf 10)).getD .skip)
set_option maxRecDepth 100000 in
set_option maxHeartbeats 4000000 in
theorem r10_0 {S : Value} {wr : World} {u0 u1 u2 u4 u5 u7 u8 u9 u10 u11 u12 u13 u14 u15 u16 u17 u18 u19 u20 u21 u22 u23 u24 u25 u26 u27 u28 u29 u30 u31 u32 u33 u34 u35 u36 u37 u38 u39 u40 u41 u42 u43 u44 u45 u46 u47 u48 u49 u50 u51 u52 u53 u54 u55 u56 u57 u58 u59 u60 u61 u62 u63 u64 u65 u66 u67 u68 u69 u70 u71 u72 u73 u74 u75 u76 u77 u78 u79 u80 u81 u82 u83 u84 u85 u86 u87 u88 u89 u90 u91 u92 u93 u94 u95 u96 u97 u98 u99 u100 u101 u102 u103 u104 u105 u106 u107 u108 u109 u110 u111 u112 u113 u114 u115 u116 u117 u118 u119 u120 u121 u122 u123 u124 u125 u126 u127 u128 u129 u130 u131 u132 u133 : Value} {Q : Exit → Act → World → Prop}  
    (HQ : Hid (∀ (v25 v26 v27 v28 v29 v30 v31 v32 v33 v34 v35 v36 v37 v38 v39 v40 v41 v42 v43 v44 v45 v46 v47 v48 v49 v50 v51 v52 v53 v54 v55 v56 v57 v58 v59 v60 v61 v62 v63 v64 v65 v66 v67 v68 v69 v70 v71 v72 v73 v74 v75 v76 v77 v78 v79 v80 v81 v82 v83 v84 v85 v86 v87 v88 v89 v90 v91 v92 v93 v94 v95 v96 v97 v98 v99 v100 v101 v102 v103 v104 v105 v106 v107 v108 v109 v110 v111 v112 v113 v114 v115 v116 v117 v118 v119 : Value) (nq : Nat), Q .normal ⟨#[u0, u1, u2, S, u4, u5, .int .i64 ((0 : Nat) : Int), u7, u8, u9, u10, u11, u12, u13, u14, u15, u16, u17, u18, u19, u20, u21, u22, u23, u24, v25, v26, v27, v28, v29, v30, v31, v32, v33, v34, v35, v36, v37, v38, v39, v40, v41, v42, v43, v44, v45, v46, v47, v48, v49, v50, v51, v52, v53, v54, v55, v56, v57, v58, v59, v60, v61, v62, v63, v64, v65, v66, v67, v68, v69, v70, v71, v72, v73, v74, v75, v76, v77, v78, v79, v80, v81, v82, v83, v84, v85, v86, v87, v88, v89, v90, v91, v92, v93, v94, v95, v96, v97, v98, v99, v100, v101, v102, v103, v104, v105, v106, v107, v108, v109, v110, v111, v112, v113, v114, v115, v116, v117, v118, v119, .bool false, u121, u122, u123, u124, u125, u126, u127, u128, u129, u130, u131, u132, u133], []⟩ (wr.drewN nq))) :
    Code.wp Try.prog r10 Q ⟨#[u0, u1, u2, S, u4, u5, .int .i64 ((0 : Nat) : Int), u7, u8, u9, u10, u11, u12, u13, u14, u15, u16, u17, u18, u19, u20, u21, u22, u23, u24, u25, u26, u27, u28, u29, u30, u31, u32, u33, u34, u35, u36, u37, u38, u39, u40, u41, u42, u43, u44, u45, u46, u47, u48, u49, u50, u51, u52, u53, u54, u55, u56, u57, u58, u59, u60, u61, u62, u63, u64, u65, u66, u67, u68, u69, u70, u71, u72, u73, u74, u75, u76, u77, u78, u79, u80, u81, u82, u83, u84, u85, u86, u87, u88, u89, u90, u91, u92, u93, u94, u95, u96, u97, u98, u99, u100, u101, u102, u103, u104, u105, u106, u107, u108, u109, u110, u111, u112, u113, u114, u115, u116, u117, u118, u119, u120, u121, u122, u123, u124, u125, u126, u127, u128, u129, u130, u131, u132, u133], []⟩ wr := by
  conv => arg 2; whnf
  simp only [List.append_eq, List.cons_append, List.nil_append]
  refine wp_region_quiet_lit (by kernel_rfl) (lexB_of (by kernel_rfl) (by kernel_rfl)) ?_
  repeat (go_big_quiet_step (fail))
  refine wpQuiet_nil ?_
  intro _ hw'
  obtain ⟨nq, hw''⟩ := hw'
  subst hw''
  exact HQ.out _ _ _ _ _ _ _ _ _ _ _ _ _ _ _ _ _ _ _ _ _ _ _ _ _ _ _ _ _ _ _ _ _ _ _ _ _ _ _ _ _ _ _ _ _ _ _ _ _ _ _ _ _ _ _ _ _ _ _ _ _ _ _ _ _ _ _ _ _ _ _ _ _ _ _ _ _ _ _ _ _ _ _ _ _ _ _ _ _ _ _ _ _ _ _ _
set_option maxRecDepth 100000 in
set_option maxHeartbeats 4000000 in
theorem r10_a {b o n cc j k m : Nat} {x y z : Ln} {wr : World} {u0 u1 u2 u4 u5 u7 u8 u9 u10 u11 u12 u13 u14 u15 u16 u17 u18 u19 u20 u21 u22 u23 u24 u25 u26 u27 u28 u29 u30 u31 u32 u33 u34 u35 u36 u37 u38 u39 u40 u41 u42 u43 u44 u45 u46 u47 u48 u49 u50 u51 u52 u53 u54 u55 u56 u57 u58 u59 u60 u61 u62 u63 u64 u65 u66 u67 u68 u69 u70 u71 u72 u73 u74 u75 u76 u77 u78 u79 u80 u81 u82 u83 u84 u85 u86 u87 u88 u89 u90 u91 u92 u93 u94 u95 u96 u97 u98 u99 u100 u101 u102 u103 u104 u105 u106 u107 u108 u109 u110 u111 u112 u113 u114 u115 u116 u117 u118 u119 u120 u121 u122 u123 u124 u125 u126 u127 u128 u129 u130 u131 u132 u133 : Value} {Q : Exit → Act → World → Prop} (hn : n ≤ 1000) (hlt : k < n) (hltz : (k : Int) < (n : Int)) (hkz0 : (0 : Int) < (k : Int)) (hkn0 : 0 < k) (hjl : j < n) (x0 : wr.cell? ⟨b, o + j * 2, none⟩ = some (.int .i64 x.b)) (x1 : wr.cell? ⟨b, o + j * 2 + 1, none⟩ = some (.int .i64 x.r)) (y0 : wr.cell? ⟨b, o + k * 2, none⟩ = some (.int .i64 y.b)) (y1 : wr.cell? ⟨b, o + k * 2 + 1, none⟩ = some (.int .i64 y.r)) (n1 : (k : Int) - 1 = (j : Int)) (n2 : (j : Int) < (n : Int)) (n4 : (0 : Int) ≤ (j : Int)) (n5 : IntKind.i64.wrap (j : Int) = (j : Int)) (fx : fits x) (fy : fits y) (hr : x.r ≤ y.r)
    (HQ : Hid (∀ (v25 v26 v27 v28 v29 v30 v31 v32 v33 v34 v35 v36 v37 v38 v39 v40 v41 v42 v43 v44 v45 v46 v47 v48 v49 v50 v51 v52 v53 v54 v55 v56 v57 v58 v59 v60 v61 v62 v63 v64 v65 v66 v67 v68 v69 v70 v71 v72 v73 v74 v75 v76 v77 v78 v79 v80 v81 v82 v83 v84 v85 v86 v87 v88 v89 v90 v91 v92 v93 v94 v95 v96 v97 v98 v99 v100 v101 v102 v103 v104 v105 v106 v107 v108 v109 v110 v111 v112 v113 v114 v115 v116 v117 v118 v119 : Value) (nq : Nat), Q .normal ⟨#[u0, u1, u2, .slice (some ⟨b, o, none⟩) n cc, u4, u5, .int .i64 (k : Int), u7, u8, u9, u10, u11, u12, u13, u14, u15, u16, u17, u18, u19, u20, u21, u22, u23, u24, v25, v26, v27, v28, v29, v30, v31, v32, v33, v34, v35, v36, v37, v38, v39, v40, v41, v42, v43, v44, v45, v46, v47, v48, v49, v50, v51, v52, v53, v54, v55, v56, v57, v58, v59, v60, v61, v62, v63, v64, v65, v66, v67, v68, v69, v70, v71, v72, v73, v74, v75, v76, v77, v78, v79, v80, v81, v82, v83, v84, v85, v86, v87, v88, v89, v90, v91, v92, v93, v94, v95, v96, v97, v98, v99, v100, v101, v102, v103, v104, v105, v106, v107, v108, v109, v110, v111, v112, v113, v114, v115, v116, v117, v118, v119, .bool true, u121, u122, u123, u124, u125, u126, u127, u128, u129, u130, u131, u132, u133], []⟩ (wr.drewN nq))) :
    Code.wp Try.prog r10 Q ⟨#[u0, u1, u2, .slice (some ⟨b, o, none⟩) n cc, u4, u5, .int .i64 (k : Int), u7, u8, u9, u10, u11, u12, u13, u14, u15, u16, u17, u18, u19, u20, u21, u22, u23, u24, u25, u26, u27, u28, u29, u30, u31, u32, u33, u34, u35, u36, u37, u38, u39, u40, u41, u42, u43, u44, u45, u46, u47, u48, u49, u50, u51, u52, u53, u54, u55, u56, u57, u58, u59, u60, u61, u62, u63, u64, u65, u66, u67, u68, u69, u70, u71, u72, u73, u74, u75, u76, u77, u78, u79, u80, u81, u82, u83, u84, u85, u86, u87, u88, u89, u90, u91, u92, u93, u94, u95, u96, u97, u98, u99, u100, u101, u102, u103, u104, u105, u106, u107, u108, u109, u110, u111, u112, u113, u114, u115, u116, u117, u118, u119, u120, u121, u122, u123, u124, u125, u126, u127, u128, u129, u130, u131, u132, u133], []⟩ wr := by
  conv => arg 2; whnf
  simp only [List.append_eq, List.cons_append, List.nil_append]
  refine wp_region_quiet_lit (by kernel_rfl) (lexB_of (by kernel_rfl) (by kernel_rfl)) ?_
  repeat (go_big_quiet_step (fail))
  refine wpQuiet_nil ?_
  intro _ hw'
  obtain ⟨nq, hw''⟩ := hw'
  subst hw''
  exact HQ.out _ _ _ _ _ _ _ _ _ _ _ _ _ _ _ _ _ _ _ _ _ _ _ _ _ _ _ _ _ _ _ _ _ _ _ _ _ _ _ _ _ _ _ _ _ _ _ _ _ _ _ _ _ _ _ _ _ _ _ _ _ _ _ _ _ _ _ _ _ _ _ _ _ _ _ _ _ _ _ _ _ _ _ _ _ _ _ _ _ _ _ _ _ _ _ _
set_option maxRecDepth 100000 in
set_option maxHeartbeats 4000000 in
theorem r10_b {b o n cc j k m : Nat} {x y z : Ln} {wr : World} {u0 u1 u2 u4 u5 u7 u8 u9 u10 u11 u12 u13 u14 u15 u16 u17 u18 u19 u20 u21 u22 u23 u24 u25 u26 u27 u28 u29 u30 u31 u32 u33 u34 u35 u36 u37 u38 u39 u40 u41 u42 u43 u44 u45 u46 u47 u48 u49 u50 u51 u52 u53 u54 u55 u56 u57 u58 u59 u60 u61 u62 u63 u64 u65 u66 u67 u68 u69 u70 u71 u72 u73 u74 u75 u76 u77 u78 u79 u80 u81 u82 u83 u84 u85 u86 u87 u88 u89 u90 u91 u92 u93 u94 u95 u96 u97 u98 u99 u100 u101 u102 u103 u104 u105 u106 u107 u108 u109 u110 u111 u112 u113 u114 u115 u116 u117 u118 u119 u120 u121 u122 u123 u124 u125 u126 u127 u128 u129 u130 u131 u132 u133 : Value} {Q : Exit → Act → World → Prop} (hn : n ≤ 1000) (hlt : k < n) (hltz : (k : Int) < (n : Int)) (hkz0 : (0 : Int) < (k : Int)) (hkn0 : 0 < k) (hjl : j < n) (x0 : wr.cell? ⟨b, o + j * 2, none⟩ = some (.int .i64 x.b)) (x1 : wr.cell? ⟨b, o + j * 2 + 1, none⟩ = some (.int .i64 x.r)) (y0 : wr.cell? ⟨b, o + k * 2, none⟩ = some (.int .i64 y.b)) (y1 : wr.cell? ⟨b, o + k * 2 + 1, none⟩ = some (.int .i64 y.r)) (n1 : (k : Int) - 1 = (j : Int)) (n2 : (j : Int) < (n : Int)) (n4 : (0 : Int) ≤ (j : Int)) (n5 : IntKind.i64.wrap (j : Int) = (j : Int)) (fx : fits x) (fy : fits y) (hrf : ¬ x.r ≤ y.r) (hk1 : ¬ k + 1 < n)
    (HQ : Hid (∀ (v25 v26 v27 v28 v29 v30 v31 v32 v33 v34 v35 v36 v37 v38 v39 v40 v41 v42 v43 v44 v45 v46 v47 v48 v49 v50 v51 v52 v53 v54 v55 v56 v57 v58 v59 v60 v61 v62 v63 v64 v65 v66 v67 v68 v69 v70 v71 v72 v73 v74 v75 v76 v77 v78 v79 v80 v81 v82 v83 v84 v85 v86 v87 v88 v89 v90 v91 v92 v93 v94 v95 v96 v97 v98 v99 v100 v101 v102 v103 v104 v105 v106 v107 v108 v109 v110 v111 v112 v113 v114 v115 v116 v117 v118 v119 : Value) (nq : Nat), Q .normal ⟨#[u0, u1, u2, .slice (some ⟨b, o, none⟩) n cc, u4, u5, .int .i64 (k : Int), u7, u8, u9, u10, u11, u12, u13, u14, u15, u16, u17, u18, u19, u20, u21, u22, u23, u24, v25, v26, v27, v28, v29, v30, v31, v32, v33, v34, v35, v36, v37, v38, v39, v40, v41, v42, v43, v44, v45, v46, v47, v48, v49, v50, v51, v52, v53, v54, v55, v56, v57, v58, v59, v60, v61, v62, v63, v64, v65, v66, v67, v68, v69, v70, v71, v72, v73, v74, v75, v76, v77, v78, v79, v80, v81, v82, v83, v84, v85, v86, v87, v88, v89, v90, v91, v92, v93, v94, v95, v96, v97, v98, v99, v100, v101, v102, v103, v104, v105, v106, v107, v108, v109, v110, v111, v112, v113, v114, v115, v116, v117, v118, v119, .bool false, u121, u122, u123, u124, u125, u126, u127, u128, u129, u130, u131, u132, u133], []⟩ (wr.drewN nq))) :
    Code.wp Try.prog r10 Q ⟨#[u0, u1, u2, .slice (some ⟨b, o, none⟩) n cc, u4, u5, .int .i64 (k : Int), u7, u8, u9, u10, u11, u12, u13, u14, u15, u16, u17, u18, u19, u20, u21, u22, u23, u24, u25, u26, u27, u28, u29, u30, u31, u32, u33, u34, u35, u36, u37, u38, u39, u40, u41, u42, u43, u44, u45, u46, u47, u48, u49, u50, u51, u52, u53, u54, u55, u56, u57, u58, u59, u60, u61, u62, u63, u64, u65, u66, u67, u68, u69, u70, u71, u72, u73, u74, u75, u76, u77, u78, u79, u80, u81, u82, u83, u84, u85, u86, u87, u88, u89, u90, u91, u92, u93, u94, u95, u96, u97, u98, u99, u100, u101, u102, u103, u104, u105, u106, u107, u108, u109, u110, u111, u112, u113, u114, u115, u116, u117, u118, u119, u120, u121, u122, u123, u124, u125, u126, u127, u128, u129, u130, u131, u132, u133], []⟩ wr := by
  conv => arg 2; whnf
  simp only [List.append_eq, List.cons_append, List.nil_append]
  have hk1z : decide ((k : Int) + 1 < (n : Int)) = false := decide_eq_false (by omega)
  refine wp_region_quiet_lit (by kernel_rfl) (lexB_of (by kernel_rfl) (by kernel_rfl)) ?_
  repeat (go_big_quiet_step (fail))
  refine wpQuiet_nil ?_
  intro _ hw'
  obtain ⟨nq, hw''⟩ := hw'
  subst hw''
  exact HQ.out _ _ _ _ _ _ _ _ _ _ _ _ _ _ _ _ _ _ _ _ _ _ _ _ _ _ _ _ _ _ _ _ _ _ _ _ _ _ _ _ _ _ _ _ _ _ _ _ _ _ _ _ _ _ _ _ _ _ _ _ _ _ _ _ _ _ _ _ _ _ _ _ _ _ _ _ _ _ _ _ _ _ _ _ _ _ _ _ _ _ _ _ _ _ _ _
set_option maxRecDepth 100000 in
set_option maxHeartbeats 4000000 in
theorem r10_c {b o n cc j k m : Nat} {x y z : Ln} {wr : World} {u0 u1 u2 u4 u5 u7 u8 u9 u10 u11 u12 u13 u14 u15 u16 u17 u18 u19 u20 u21 u22 u23 u24 u25 u26 u27 u28 u29 u30 u31 u32 u33 u34 u35 u36 u37 u38 u39 u40 u41 u42 u43 u44 u45 u46 u47 u48 u49 u50 u51 u52 u53 u54 u55 u56 u57 u58 u59 u60 u61 u62 u63 u64 u65 u66 u67 u68 u69 u70 u71 u72 u73 u74 u75 u76 u77 u78 u79 u80 u81 u82 u83 u84 u85 u86 u87 u88 u89 u90 u91 u92 u93 u94 u95 u96 u97 u98 u99 u100 u101 u102 u103 u104 u105 u106 u107 u108 u109 u110 u111 u112 u113 u114 u115 u116 u117 u118 u119 u120 u121 u122 u123 u124 u125 u126 u127 u128 u129 u130 u131 u132 u133 : Value} {Q : Exit → Act → World → Prop} (hn : n ≤ 1000) (hlt : k < n) (hltz : (k : Int) < (n : Int)) (hkz0 : (0 : Int) < (k : Int)) (hkn0 : 0 < k) (hjl : j < n) (x0 : wr.cell? ⟨b, o + j * 2, none⟩ = some (.int .i64 x.b)) (x1 : wr.cell? ⟨b, o + j * 2 + 1, none⟩ = some (.int .i64 x.r)) (y0 : wr.cell? ⟨b, o + k * 2, none⟩ = some (.int .i64 y.b)) (y1 : wr.cell? ⟨b, o + k * 2 + 1, none⟩ = some (.int .i64 y.r)) (n1 : (k : Int) - 1 = (j : Int)) (n2 : (j : Int) < (n : Int)) (n4 : (0 : Int) ≤ (j : Int)) (n5 : IntKind.i64.wrap (j : Int) = (j : Int)) (fx : fits x) (fy : fits y) (hrf : ¬ x.r ≤ y.r) (hk1 : m < n) (z0 : wr.cell? ⟨b, o + m * 2, none⟩ = some (.int .i64 z.b)) (z1 : wr.cell? ⟨b, o + m * 2 + 1, none⟩ = some (.int .i64 z.r)) (q1 : (k : Int) + 1 = (m : Int)) (q2 : (m : Int) < (n : Int)) (q4 : (0 : Int) ≤ (m : Int)) (q5 : IntKind.i64.wrap (m : Int) = (m : Int)) (fz : fits z) (hz : ¬ z.r < y.r)
    (HQ : Hid (∀ (v25 v26 v27 v28 v29 v30 v31 v32 v33 v34 v35 v36 v37 v38 v39 v40 v41 v42 v43 v44 v45 v46 v47 v48 v49 v50 v51 v52 v53 v54 v55 v56 v57 v58 v59 v60 v61 v62 v63 v64 v65 v66 v67 v68 v69 v70 v71 v72 v73 v74 v75 v76 v77 v78 v79 v80 v81 v82 v83 v84 v85 v86 v87 v88 v89 v90 v91 v92 v93 v94 v95 v96 v97 v98 v99 v100 v101 v102 v103 v104 v105 v106 v107 v108 v109 v110 v111 v112 v113 v114 v115 v116 v117 v118 v119 : Value) (nq : Nat), Q .normal ⟨#[u0, u1, u2, .slice (some ⟨b, o, none⟩) n cc, u4, u5, .int .i64 (k : Int), u7, u8, u9, u10, u11, u12, u13, u14, u15, u16, u17, u18, u19, u20, u21, u22, u23, u24, v25, v26, v27, v28, v29, v30, v31, v32, v33, v34, v35, v36, v37, v38, v39, v40, v41, v42, v43, v44, v45, v46, v47, v48, v49, v50, v51, v52, v53, v54, v55, v56, v57, v58, v59, v60, v61, v62, v63, v64, v65, v66, v67, v68, v69, v70, v71, v72, v73, v74, v75, v76, v77, v78, v79, v80, v81, v82, v83, v84, v85, v86, v87, v88, v89, v90, v91, v92, v93, v94, v95, v96, v97, v98, v99, v100, v101, v102, v103, v104, v105, v106, v107, v108, v109, v110, v111, v112, v113, v114, v115, v116, v117, v118, v119, .bool false, u121, u122, u123, u124, u125, u126, u127, u128, u129, u130, u131, u132, u133], []⟩ (wr.drewN nq))) :
    Code.wp Try.prog r10 Q ⟨#[u0, u1, u2, .slice (some ⟨b, o, none⟩) n cc, u4, u5, .int .i64 (k : Int), u7, u8, u9, u10, u11, u12, u13, u14, u15, u16, u17, u18, u19, u20, u21, u22, u23, u24, u25, u26, u27, u28, u29, u30, u31, u32, u33, u34, u35, u36, u37, u38, u39, u40, u41, u42, u43, u44, u45, u46, u47, u48, u49, u50, u51, u52, u53, u54, u55, u56, u57, u58, u59, u60, u61, u62, u63, u64, u65, u66, u67, u68, u69, u70, u71, u72, u73, u74, u75, u76, u77, u78, u79, u80, u81, u82, u83, u84, u85, u86, u87, u88, u89, u90, u91, u92, u93, u94, u95, u96, u97, u98, u99, u100, u101, u102, u103, u104, u105, u106, u107, u108, u109, u110, u111, u112, u113, u114, u115, u116, u117, u118, u119, u120, u121, u122, u123, u124, u125, u126, u127, u128, u129, u130, u131, u132, u133], []⟩ wr := by
  conv => arg 2; whnf
  simp only [List.append_eq, List.cons_append, List.nil_append]
  have hzf : decide (z.r < y.r) = false := decide_eq_false hz
  refine wp_region_quiet_lit (by kernel_rfl) (lexB_of (by kernel_rfl) (by kernel_rfl)) ?_
  repeat (go_big_quiet_step (fail))
  refine wpQuiet_nil ?_
  intro _ hw'
  obtain ⟨nq, hw''⟩ := hw'
  subst hw''
  exact HQ.out _ _ _ _ _ _ _ _ _ _ _ _ _ _ _ _ _ _ _ _ _ _ _ _ _ _ _ _ _ _ _ _ _ _ _ _ _ _ _ _ _ _ _ _ _ _ _ _ _ _ _ _ _ _ _ _ _ _ _ _ _ _ _ _ _ _ _ _ _ _ _ _ _ _ _ _ _ _ _ _ _ _ _ _ _ _ _ _ _ _ _ _ _ _ _ _
set_option maxRecDepth 100000 in
set_option maxHeartbeats 4000000 in
theorem r10_d {b o n cc j k m : Nat} {x y z : Ln} {wr : World} {u0 u1 u2 u4 u5 u7 u8 u9 u10 u11 u12 u13 u14 u15 u16 u17 u18 u19 u20 u21 u22 u23 u24 u25 u26 u27 u28 u29 u30 u31 u32 u33 u34 u35 u36 u37 u38 u39 u40 u41 u42 u43 u44 u45 u46 u47 u48 u49 u50 u51 u52 u53 u54 u55 u56 u57 u58 u59 u60 u61 u62 u63 u64 u65 u66 u67 u68 u69 u70 u71 u72 u73 u74 u75 u76 u77 u78 u79 u80 u81 u82 u83 u84 u85 u86 u87 u88 u89 u90 u91 u92 u93 u94 u95 u96 u97 u98 u99 u100 u101 u102 u103 u104 u105 u106 u107 u108 u109 u110 u111 u112 u113 u114 u115 u116 u117 u118 u119 u120 u121 u122 u123 u124 u125 u126 u127 u128 u129 u130 u131 u132 u133 : Value} {Q : Exit → Act → World → Prop} (hn : n ≤ 1000) (hlt : k < n) (hltz : (k : Int) < (n : Int)) (hkz0 : (0 : Int) < (k : Int)) (hkn0 : 0 < k) (hjl : j < n) (x0 : wr.cell? ⟨b, o + j * 2, none⟩ = some (.int .i64 x.b)) (x1 : wr.cell? ⟨b, o + j * 2 + 1, none⟩ = some (.int .i64 x.r)) (y0 : wr.cell? ⟨b, o + k * 2, none⟩ = some (.int .i64 y.b)) (y1 : wr.cell? ⟨b, o + k * 2 + 1, none⟩ = some (.int .i64 y.r)) (n1 : (k : Int) - 1 = (j : Int)) (n2 : (j : Int) < (n : Int)) (n4 : (0 : Int) ≤ (j : Int)) (n5 : IntKind.i64.wrap (j : Int) = (j : Int)) (fx : fits x) (fy : fits y) (hrf : ¬ x.r ≤ y.r) (hk1 : m < n) (z0 : wr.cell? ⟨b, o + m * 2, none⟩ = some (.int .i64 z.b)) (z1 : wr.cell? ⟨b, o + m * 2 + 1, none⟩ = some (.int .i64 z.r)) (q1 : (k : Int) + 1 = (m : Int)) (q2 : (m : Int) < (n : Int)) (q4 : (0 : Int) ≤ (m : Int)) (q5 : IntKind.i64.wrap (m : Int) = (m : Int)) (fz : fits z) (hz : z.r < y.r) (hnd : (z.b - x.b) * (x.r - y.r) ≤ (y.b - x.b) * (x.r - z.r))
    (HQ : Hid (∀ (v25 v26 v27 v28 v29 v30 v31 v32 v33 v34 v35 v36 v37 v38 v39 v40 v41 v42 v43 v44 v45 v46 v47 v48 v49 v50 v51 v52 v53 v54 v55 v56 v57 v58 v59 v60 v61 v62 v63 v64 v65 v66 v67 v68 v69 v70 v71 v72 v73 v74 v75 v76 v77 v78 v79 v80 v81 v82 v83 v84 v85 v86 v87 v88 v89 v90 v91 v92 v93 v94 v95 v96 v97 v98 v99 v100 v101 v102 v103 v104 v105 v106 v107 v108 v109 v110 v111 v112 v113 v114 v115 v116 v117 v118 v119 : Value) (nq : Nat), Q .normal ⟨#[u0, u1, u2, .slice (some ⟨b, o, none⟩) n cc, u4, u5, .int .i64 (k : Int), u7, u8, u9, u10, u11, u12, u13, u14, u15, u16, u17, u18, u19, u20, u21, u22, u23, u24, v25, v26, v27, v28, v29, v30, v31, v32, v33, v34, v35, v36, v37, v38, v39, v40, v41, v42, v43, v44, v45, v46, v47, v48, v49, v50, v51, v52, v53, v54, v55, v56, v57, v58, v59, v60, v61, v62, v63, v64, v65, v66, v67, v68, v69, v70, v71, v72, v73, v74, v75, v76, v77, v78, v79, v80, v81, v82, v83, v84, v85, v86, v87, v88, v89, v90, v91, v92, v93, v94, v95, v96, v97, v98, v99, v100, v101, v102, v103, v104, v105, v106, v107, v108, v109, v110, v111, v112, v113, v114, v115, v116, v117, v118, v119, .bool true, u121, u122, u123, u124, u125, u126, u127, u128, u129, u130, u131, u132, u133], []⟩ (wr.drewN nq))) :
    Code.wp Try.prog r10 Q ⟨#[u0, u1, u2, .slice (some ⟨b, o, none⟩) n cc, u4, u5, .int .i64 (k : Int), u7, u8, u9, u10, u11, u12, u13, u14, u15, u16, u17, u18, u19, u20, u21, u22, u23, u24, u25, u26, u27, u28, u29, u30, u31, u32, u33, u34, u35, u36, u37, u38, u39, u40, u41, u42, u43, u44, u45, u46, u47, u48, u49, u50, u51, u52, u53, u54, u55, u56, u57, u58, u59, u60, u61, u62, u63, u64, u65, u66, u67, u68, u69, u70, u71, u72, u73, u74, u75, u76, u77, u78, u79, u80, u81, u82, u83, u84, u85, u86, u87, u88, u89, u90, u91, u92, u93, u94, u95, u96, u97, u98, u99, u100, u101, u102, u103, u104, u105, u106, u107, u108, u109, u110, u111, u112, u113, u114, u115, u116, u117, u118, u119, u120, u121, u122, u123, u124, u125, u126, u127, u128, u129, u130, u131, u132, u133], []⟩ wr := by
  conv => arg 2; whnf
  simp only [List.append_eq, List.cons_append, List.nil_append]
  obtain ⟨⟨a1, a2⟩, a3, a4⟩ := fx
  obtain ⟨⟨b1, b2⟩, b3, b4⟩ := fy
  obtain ⟨⟨c1, c2⟩, c3, c4⟩ := fz
  have s1 : IntKind.i64.wrap (z.b - x.b) = z.b - x.b := by rw [IntWalk.i64_in _ (by omega)]
  have s2 : IntKind.i64.wrap (x.r - y.r) = x.r - y.r := by rw [IntWalk.i64_in _ (by omega)]
  have s3 : IntKind.i64.wrap (y.b - x.b) = y.b - x.b := by rw [IntWalk.i64_in _ (by omega)]
  have s4 : IntKind.i64.wrap (x.r - z.r) = x.r - z.r := by rw [IntWalk.i64_in _ (by omega)]
  obtain ⟨w1a, w1b⟩ := mul_fits (p := z.b - x.b) (u := x.r - y.r) (by omega) (by omega) (by omega) (by omega)
  obtain ⟨w2a, w2b⟩ := mul_fits (p := y.b - x.b) (u := x.r - z.r) (by omega) (by omega) (by omega) (by omega)
  have s5 : IntKind.i64.wrap ((z.b - x.b) * (x.r - y.r)) = (z.b - x.b) * (x.r - y.r) := by rw [IntWalk.i64_in _ (by omega)]
  have s6 : IntKind.i64.wrap ((y.b - x.b) * (x.r - z.r)) = (y.b - x.b) * (x.r - z.r) := by rw [IntWalk.i64_in _ (by omega)]
  refine wp_region_quiet_lit (by kernel_rfl) (lexB_of (by kernel_rfl) (by kernel_rfl)) ?_
  repeat (go_big_quiet_step (fail))
  refine wpQuiet_nil ?_
  intro _ hw'
  obtain ⟨nq, hw''⟩ := hw'
  subst hw''
  exact HQ.out _ _ _ _ _ _ _ _ _ _ _ _ _ _ _ _ _ _ _ _ _ _ _ _ _ _ _ _ _ _ _ _ _ _ _ _ _ _ _ _ _ _ _ _ _ _ _ _ _ _ _ _ _ _ _ _ _ _ _ _ _ _ _ _ _ _ _ _ _ _ _ _ _ _ _ _ _ _ _ _ _ _ _ _ _ _ _ _ _ _ _ _ _ _ _ _
set_option maxRecDepth 100000 in
set_option maxHeartbeats 4000000 in
theorem r10_e {b o n cc j k m : Nat} {x y z : Ln} {wr : World} {u0 u1 u2 u4 u5 u7 u8 u9 u10 u11 u12 u13 u14 u15 u16 u17 u18 u19 u20 u21 u22 u23 u24 u25 u26 u27 u28 u29 u30 u31 u32 u33 u34 u35 u36 u37 u38 u39 u40 u41 u42 u43 u44 u45 u46 u47 u48 u49 u50 u51 u52 u53 u54 u55 u56 u57 u58 u59 u60 u61 u62 u63 u64 u65 u66 u67 u68 u69 u70 u71 u72 u73 u74 u75 u76 u77 u78 u79 u80 u81 u82 u83 u84 u85 u86 u87 u88 u89 u90 u91 u92 u93 u94 u95 u96 u97 u98 u99 u100 u101 u102 u103 u104 u105 u106 u107 u108 u109 u110 u111 u112 u113 u114 u115 u116 u117 u118 u119 u120 u121 u122 u123 u124 u125 u126 u127 u128 u129 u130 u131 u132 u133 : Value} {Q : Exit → Act → World → Prop} (hn : n ≤ 1000) (hlt : k < n) (hltz : (k : Int) < (n : Int)) (hkz0 : (0 : Int) < (k : Int)) (hkn0 : 0 < k) (hjl : j < n) (x0 : wr.cell? ⟨b, o + j * 2, none⟩ = some (.int .i64 x.b)) (x1 : wr.cell? ⟨b, o + j * 2 + 1, none⟩ = some (.int .i64 x.r)) (y0 : wr.cell? ⟨b, o + k * 2, none⟩ = some (.int .i64 y.b)) (y1 : wr.cell? ⟨b, o + k * 2 + 1, none⟩ = some (.int .i64 y.r)) (n1 : (k : Int) - 1 = (j : Int)) (n2 : (j : Int) < (n : Int)) (n4 : (0 : Int) ≤ (j : Int)) (n5 : IntKind.i64.wrap (j : Int) = (j : Int)) (fx : fits x) (fy : fits y) (hrf : ¬ x.r ≤ y.r) (hk1 : m < n) (z0 : wr.cell? ⟨b, o + m * 2, none⟩ = some (.int .i64 z.b)) (z1 : wr.cell? ⟨b, o + m * 2 + 1, none⟩ = some (.int .i64 z.r)) (q1 : (k : Int) + 1 = (m : Int)) (q2 : (m : Int) < (n : Int)) (q4 : (0 : Int) ≤ (m : Int)) (q5 : IntKind.i64.wrap (m : Int) = (m : Int)) (fz : fits z) (hz : z.r < y.r) (hnd : ¬ (z.b - x.b) * (x.r - y.r) ≤ (y.b - x.b) * (x.r - z.r))
    (HQ : Hid (∀ (v25 v26 v27 v28 v29 v30 v31 v32 v33 v34 v35 v36 v37 v38 v39 v40 v41 v42 v43 v44 v45 v46 v47 v48 v49 v50 v51 v52 v53 v54 v55 v56 v57 v58 v59 v60 v61 v62 v63 v64 v65 v66 v67 v68 v69 v70 v71 v72 v73 v74 v75 v76 v77 v78 v79 v80 v81 v82 v83 v84 v85 v86 v87 v88 v89 v90 v91 v92 v93 v94 v95 v96 v97 v98 v99 v100 v101 v102 v103 v104 v105 v106 v107 v108 v109 v110 v111 v112 v113 v114 v115 v116 v117 v118 v119 : Value) (nq : Nat), Q .normal ⟨#[u0, u1, u2, .slice (some ⟨b, o, none⟩) n cc, u4, u5, .int .i64 (k : Int), u7, u8, u9, u10, u11, u12, u13, u14, u15, u16, u17, u18, u19, u20, u21, u22, u23, u24, v25, v26, v27, v28, v29, v30, v31, v32, v33, v34, v35, v36, v37, v38, v39, v40, v41, v42, v43, v44, v45, v46, v47, v48, v49, v50, v51, v52, v53, v54, v55, v56, v57, v58, v59, v60, v61, v62, v63, v64, v65, v66, v67, v68, v69, v70, v71, v72, v73, v74, v75, v76, v77, v78, v79, v80, v81, v82, v83, v84, v85, v86, v87, v88, v89, v90, v91, v92, v93, v94, v95, v96, v97, v98, v99, v100, v101, v102, v103, v104, v105, v106, v107, v108, v109, v110, v111, v112, v113, v114, v115, v116, v117, v118, v119, .bool false, u121, u122, u123, u124, u125, u126, u127, u128, u129, u130, u131, u132, u133], []⟩ (wr.drewN nq))) :
    Code.wp Try.prog r10 Q ⟨#[u0, u1, u2, .slice (some ⟨b, o, none⟩) n cc, u4, u5, .int .i64 (k : Int), u7, u8, u9, u10, u11, u12, u13, u14, u15, u16, u17, u18, u19, u20, u21, u22, u23, u24, u25, u26, u27, u28, u29, u30, u31, u32, u33, u34, u35, u36, u37, u38, u39, u40, u41, u42, u43, u44, u45, u46, u47, u48, u49, u50, u51, u52, u53, u54, u55, u56, u57, u58, u59, u60, u61, u62, u63, u64, u65, u66, u67, u68, u69, u70, u71, u72, u73, u74, u75, u76, u77, u78, u79, u80, u81, u82, u83, u84, u85, u86, u87, u88, u89, u90, u91, u92, u93, u94, u95, u96, u97, u98, u99, u100, u101, u102, u103, u104, u105, u106, u107, u108, u109, u110, u111, u112, u113, u114, u115, u116, u117, u118, u119, u120, u121, u122, u123, u124, u125, u126, u127, u128, u129, u130, u131, u132, u133], []⟩ wr := by
  conv => arg 2; whnf
  simp only [List.append_eq, List.cons_append, List.nil_append]
  obtain ⟨⟨a1, a2⟩, a3, a4⟩ := fx
  obtain ⟨⟨b1, b2⟩, b3, b4⟩ := fy
  obtain ⟨⟨c1, c2⟩, c3, c4⟩ := fz
  have s1 : IntKind.i64.wrap (z.b - x.b) = z.b - x.b := by rw [IntWalk.i64_in _ (by omega)]
  have s2 : IntKind.i64.wrap (x.r - y.r) = x.r - y.r := by rw [IntWalk.i64_in _ (by omega)]
  have s3 : IntKind.i64.wrap (y.b - x.b) = y.b - x.b := by rw [IntWalk.i64_in _ (by omega)]
  have s4 : IntKind.i64.wrap (x.r - z.r) = x.r - z.r := by rw [IntWalk.i64_in _ (by omega)]
  obtain ⟨w1a, w1b⟩ := mul_fits (p := z.b - x.b) (u := x.r - y.r) (by omega) (by omega) (by omega) (by omega)
  obtain ⟨w2a, w2b⟩ := mul_fits (p := y.b - x.b) (u := x.r - z.r) (by omega) (by omega) (by omega) (by omega)
  have s5 : IntKind.i64.wrap ((z.b - x.b) * (x.r - y.r)) = (z.b - x.b) * (x.r - y.r) := by rw [IntWalk.i64_in _ (by omega)]
  have s6 : IntKind.i64.wrap ((y.b - x.b) * (x.r - z.r)) = (y.b - x.b) * (x.r - z.r) := by rw [IntWalk.i64_in _ (by omega)]
  have hndf : decide ((z.b - x.b) * (x.r - y.r) ≤ (y.b - x.b) * (x.r - z.r)) = false := decide_eq_false hnd
  refine wp_region_quiet_lit (by kernel_rfl) (lexB_of (by kernel_rfl) (by kernel_rfl)) ?_
  repeat (go_big_quiet_step (fail))
  refine wpQuiet_nil ?_
  intro _ hw'
  obtain ⟨nq, hw''⟩ := hw'
  subst hw''
  exact HQ.out _ _ _ _ _ _ _ _ _ _ _ _ _ _ _ _ _ _ _ _ _ _ _ _ _ _ _ _ _ _ _ _ _ _ _ _ _ _ _ _ _ _ _ _ _ _ _ _ _ _ _ _ _ _ _ _ _ _ _ _ _ _ _ _ _ _ _ _ _ _ _ _ _ _ _ _ _ _ _ _ _ _ _ _ _ _ _ _ _ _ _ _ _ _ _ _
end Go.Proofs.Ytmkjiflliejjjaa
