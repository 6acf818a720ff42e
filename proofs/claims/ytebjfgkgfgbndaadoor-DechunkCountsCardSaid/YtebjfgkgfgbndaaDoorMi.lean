/- Step, whole: contracts (walks) and plain laws over this seat's translation. -/
import Derived.Test.YtebjfgkgfgbndaaDoorMh
namespace Go.Proofs.YtebjfgkgfgbndaaDoor
open Go.RowKit Go.Proofs.YtebjfgkgfgbndaaDoorW.PrintWords Go.Proofs.YtebjfgkgfgbndaaDoorW.PrintLast Go.Proofs.YtebjfgkgfgbndaaDoorW.PrintMore
open PBodyScans
set_option linter.unusedVariables false
set_option linter.unusedSimpArgs false

theorem quo_u64 (c : Int) (h : 0 ≤ digV c) : IntKind.u64.wrap ((IntKind.u64.wrap (4611686018427387903 - IntKind.u64.wrap (digV c))).tdiv 16) = (4611686018427387903 - digV c) / 16 := by
  have hr := (digV_range c).2
  rw [u64_in (digV c) (by omega) (by omega), u64_in (4611686018427387903 - digV c) (by omega) (by omega), Int.tdiv_eq_ediv_of_nonneg (by omega), u64_in _ (by omega) (by omega)]

set_option maxHeartbeats 4000000 in
set_option maxRecDepth 100000 in
theorem step_0a {w0 w : World} {S : Nat → Prop} {d : Dc} {data : List Int} {vd vf : Value} (hB : Below w0.heap.size w0 w) (hr : SRows w w0.heap.size S d data vd vf) (hok : DInv d) (c : Int) (h0 : 0 ≤ c) (h1 : c ≤ 255) (he : d.e = 0) (hp : d.place = 0) (hd : digV c ≥ 0) (hc : d.count = 16) :
    Calls Tryd.prog 57 #[.agg (sCells d vd vf), .int .u8 c, .agg (lCells d)] w (SPost w0 w S d data c) := by
  obtain ⟨b0, b1, b2, b3, b4, b5, b6, b7, b8, b9, b10⟩ := placesB hp
  obtain ⟨o1, o2, o3, o4, o5, o6⟩ := rangesB hok.ok
  have HE : Aside0 ((bput d c).1.e = 3) := ⟨bput_no he (by omega) (by omega) (D := d) (by simp [dStep, hp, dDigit, hd, hc]) (by decide)⟩
  have bd : decide (0 ≤ digV c) = true := decide_eq_true (by omega)
  have bc : (d.count == 16) = true := by exact beq_iff_eq.mpr (by assumption)
  have HD := Aside0.mk (digit_f c h0 h1)
  obtain ⟨A6, c6, rfl⟩ := Kd.R_slice hr.data
  obtain ⟨A7, c7, rfl⟩ := Kd.R_slice hr.fields
  have H := Aside0.mk (And.intro hB hr)
  unfold sCells lCells
  clear hB hr hok h0 h1 he hp hd hc
  go_enter Tryd.func57, Tryd.ntmps57
  go_wp2_with (first
    | ((with_reducible refine gate_dst (N := 3) rfl ?_); refine box_event ?hg (N := 3) ?hd (cs := sCells d (.slice A6 data.length c6) (.slice A7 d.fields.length c7)) (t := 39) ?hr ?_; (case hd => rfl); (case hg => rfl); (case hr => first | (go_simp; done) | (go_simp; rfl)); intro g1 e1 w1 h1 k1)
    | ((with_reducible refine gate_dst (N := 5) rfl ?_); refine box_event ?hg (N := 5) ?hd (cs := lCells d) (t := 23) ?hr ?_; (case hd => rfl); (case hg => rfl); (case hr => first | (go_simp; done) | (go_simp; rfl)); intro g2 e2 w2 h2 k2)
    | ((with_reducible refine gate_dst (N := 6) rfl ?_); refine box_event ?hg (N := 6) ?hd (cs := zCells) (t := 39) ?hr ?_; (case hd => rfl); (case hg => rfl); (case hr => first | (go_simp; done) | (go_simp; rfl)); intro g3 e3 w3 h3 k3
       have M := Aside0.mk (SMid.start H.out.1 H.out.2 e1 h1 k1 e2 h2 k2 e3 h3 k3)
       have HW := Aside0.mk (below_step (below_step k1 k2) k3)
       obtain ⟨⟨a0_0, a1_0, a2_0, a3_0, a4_0, a5_0, a6_0, a7_0⟩, ⟨l0_0, l1_0, l2_0⟩, ⟨z0_0, z1_0, z2_0, z3_0, z4_0, z5_0, z6_0, z7_0⟩, f1_0, f3_0, n13, n12, n23⟩ := M.out.all
       clear h1 k1 h2 k2 h3 k3 e1 e2 e3))
  refine (catchpitref01_Digit.calls 17 c (digV c) _ HD.out).mono ?_
  rintro e w4 ⟨rfl, hd⟩
  have M4 := Aside0.mk (M.out.step (Drawn0.below hd))
  have HW4 := Aside0.mk (below_step HW.out (Drawn0.below hd))
  clear a0_0 a1_0 a2_0 a3_0 a4_0 a5_0 a6_0 a7_0 l0_0 l1_0 l2_0 z0_0 z1_0 z2_0 z3_0 z4_0 z5_0 z6_0 z7_0 f1_0 f3_0
  obtain ⟨⟨a0_4, a1_4, a2_4, a3_4, a4_4, a5_4, a6_4, a7_4⟩, ⟨l0_4, l1_4, l2_4⟩, ⟨z0_4, z1_4, z2_4, z3_4, z4_4, z5_4, z6_4, z7_4⟩, f1_4, f3_4, -, -, -⟩ := M4.out.all
  clear hd
  go_wp2_with fail
  obtain ⟨q1, q2, q3, q4⟩ := M4.out.leaf
  refine bodyPost_ret (results_ct rfl _ _ g3 39 _ (0, 0) _ rfl q1 Tryd.underlying39 rfl (by kernel_rfl)) rfl ?_
  exact ⟨_, _, _, _, by rw [HE.out]; rfl, q2, q3, q4, fun h => absurd (HE.out.symm.trans h) (by decide), fun _ => (leafB (d := d) (vd := .slice A6 data.length c6) (vf := .slice A7 d.fields.length c7) M4.out.r HW4.out M4.out.g3w).2⟩

set_option maxHeartbeats 4000000 in
set_option maxRecDepth 100000 in
theorem step_0b {w0 w : World} {S : Nat → Prop} {d : Dc} {data : List Int} {vd vf : Value} (hB : Below w0.heap.size w0 w) (hr : SRows w w0.heap.size S d data vd vf) (hok : DInv d) (c : Int) (h0 : 0 ≤ c) (h1 : c ≤ 255) (he : d.e = 0) (hp : d.place = 0) (hd : digV c ≥ 0) (hc : ¬ d.count = 16) (hn : d.n > (4611686018427387903 - digV c) / 16) :
    Calls Tryd.prog 57 #[.agg (sCells d vd vf), .int .u8 c, .agg (lCells d)] w (SPost w0 w S d data c) := by
  obtain ⟨b0, b1, b2, b3, b4, b5, b6, b7, b8, b9, b10⟩ := placesB hp
  obtain ⟨o1, o2, o3, o4, o5, o6⟩ := rangesB hok.ok
  have hm : (moreN d.n c).2 = 3 := by unfold moreN; rw [if_neg (by omega)]; rw [if_pos hn]
  have HE : Aside0 ((bput d c).1.e = 3) := ⟨bput_no he (by omega) (by omega) (D := d) (by simp [dStep, hp, dDigit, hd, hc, hm]) (by decide)⟩
  clear hm
  have bd : decide (0 ≤ digV c) = true := decide_eq_true (by omega)
  have bc : (d.count == 16) = false := by exact beq_eq_false_iff_ne.mpr (by assumption)
  have HD := Aside0.mk (digit_f c h0 h1)
  have hr0 := (digV_range c).1
  have hr1 := (digV_range c).2
  have hq := quo_u64 c (by omega)
  have bn : decide (IntKind.u64.wrap ((IntKind.u64.wrap (4611686018427387903 - IntKind.u64.wrap (digV c))).tdiv 16) < d.n) = true := by rw [hq]; exact decide_eq_true hn
  clear hq
  obtain ⟨A6, c6, rfl⟩ := Kd.R_slice hr.data
  obtain ⟨A7, c7, rfl⟩ := Kd.R_slice hr.fields
  have H := Aside0.mk (And.intro hB hr)
  unfold sCells lCells
  clear hB hr hok h0 h1 he hp hd hc hn
  go_enter Tryd.func57, Tryd.ntmps57
  go_wp2_with (first
    | ((with_reducible refine gate_dst (N := 3) rfl ?_); refine box_event ?hg (N := 3) ?hd (cs := sCells d (.slice A6 data.length c6) (.slice A7 d.fields.length c7)) (t := 39) ?hr ?_; (case hd => rfl); (case hg => rfl); (case hr => first | (go_simp; done) | (go_simp; rfl)); intro g1 e1 w1 h1 k1)
    | ((with_reducible refine gate_dst (N := 5) rfl ?_); refine box_event ?hg (N := 5) ?hd (cs := lCells d) (t := 23) ?hr ?_; (case hd => rfl); (case hg => rfl); (case hr => first | (go_simp; done) | (go_simp; rfl)); intro g2 e2 w2 h2 k2)
    | ((with_reducible refine gate_dst (N := 6) rfl ?_); refine box_event ?hg (N := 6) ?hd (cs := zCells) (t := 39) ?hr ?_; (case hd => rfl); (case hg => rfl); (case hr => first | (go_simp; done) | (go_simp; rfl)); intro g3 e3 w3 h3 k3
       have M := Aside0.mk (SMid.start H.out.1 H.out.2 e1 h1 k1 e2 h2 k2 e3 h3 k3)
       have HW := Aside0.mk (below_step (below_step k1 k2) k3)
       obtain ⟨⟨a0_0, a1_0, a2_0, a3_0, a4_0, a5_0, a6_0, a7_0⟩, ⟨l0_0, l1_0, l2_0⟩, ⟨z0_0, z1_0, z2_0, z3_0, z4_0, z5_0, z6_0, z7_0⟩, f1_0, f3_0, n13, n12, n23⟩ := M.out.all
       clear h1 k1 h2 k2 h3 k3 e1 e2 e3))
  refine (catchpitref01_Digit.calls 17 c (digV c) _ HD.out).mono ?_
  rintro e w4 ⟨rfl, hd⟩
  have M4 := Aside0.mk (M.out.step (Drawn0.below hd))
  have HW4 := Aside0.mk (below_step HW.out (Drawn0.below hd))
  clear a0_0 a1_0 a2_0 a3_0 a4_0 a5_0 a6_0 a7_0 l0_0 l1_0 l2_0 z0_0 z1_0 z2_0 z3_0 z4_0 z5_0 z6_0 z7_0 f1_0 f3_0
  obtain ⟨⟨a0_4, a1_4, a2_4, a3_4, a4_4, a5_4, a6_4, a7_4⟩, ⟨l0_4, l1_4, l2_4⟩, ⟨z0_4, z1_4, z2_4, z3_4, z4_4, z5_4, z6_4, z7_4⟩, f1_4, f3_4, -, -, -⟩ := M4.out.all
  clear hd
  go_wp2_with fail
  obtain ⟨q1, q2, q3, q4⟩ := M4.out.leaf
  refine bodyPost_ret (results_ct rfl _ _ g3 39 _ (0, 0) _ rfl q1 Tryd.underlying39 rfl (by kernel_rfl)) rfl ?_
  exact ⟨_, _, _, _, by rw [HE.out]; rfl, q2, q3, q4, fun h => absurd (HE.out.symm.trans h) (by decide), fun _ => (leafB (d := d) (vd := .slice A6 data.length c6) (vf := .slice A7 d.fields.length c7) M4.out.r HW4.out M4.out.g3w).2⟩

set_option maxHeartbeats 4000000 in
set_option maxRecDepth 100000 in
theorem step_0c {w0 w : World} {S : Nat → Prop} {d : Dc} {data : List Int} {vd vf : Value} (hB : Below w0.heap.size w0 w) (hr : SRows w w0.heap.size S d data vd vf) (hok : DInv d) (c : Int) (h0 : 0 ≤ c) (h1 : c ≤ 255) (he : d.e = 0) (hp : d.place = 0) (hd : digV c ≥ 0) (hc : ¬ d.count = 16) (hn : ¬ d.n > (4611686018427387903 - digV c) / 16) :
    Calls Tryd.prog 57 #[.agg (sCells d vd vf), .int .u8 c, .agg (lCells d)] w (SPost w0 w S d data c) := by
  obtain ⟨b0, b1, b2, b3, b4, b5, b6, b7, b8, b9, b10⟩ := placesB hp
  obtain ⟨o1, o2, o3, o4, o5, o6⟩ := rangesB hok.ok
  have hm : moreN d.n c = (16 * d.n + digV c, 0) := by unfold moreN; rw [if_neg (by omega), if_neg hn]
  have HE : Aside0 (bput d c = ({ { d with n := 16 * d.n + digV c, count := d.count + 1 } with e := 0 }, 1, [])) := ⟨bput_ok he (by omega) (by omega) (by simp [dStep, hp, dDigit, hd, hc, hm])⟩
  clear hm
  have bd : decide (0 ≤ digV c) = true := decide_eq_true (by omega)
  have bc : (d.count == 16) = false := by exact beq_eq_false_iff_ne.mpr (by assumption)
  have HD := Aside0.mk (digit_f c h0 h1)
  have hr0 := (digV_range c).1
  have hr1 := (digV_range c).2
  have hq := quo_u64 c (by omega)
  have bn : decide (IntKind.u64.wrap ((IntKind.u64.wrap (4611686018427387903 - IntKind.u64.wrap (digV c))).tdiv 16) < d.n) = false := by rw [hq]; exact decide_eq_false hn
  clear hq
  have HX : Aside0 (IntKind.u64.wrap (IntKind.u64.wrap (16 * d.n) + IntKind.u64.wrap (digV c)) = 16 * d.n + digV c) := ⟨by rw [u64_in (16 * d.n) (by omega) (by omega), u64_in (digV c) (by omega) (by omega), u64_in _ (by omega) (by omega)]⟩
  obtain ⟨A6, c6, rfl⟩ := Kd.R_slice hr.data
  obtain ⟨A7, c7, rfl⟩ := Kd.R_slice hr.fields
  have H := Aside0.mk (And.intro hB hr)
  unfold sCells lCells
  clear hB hr hok h0 h1 he hp hd hc hn
  go_enter Tryd.func57, Tryd.ntmps57
  go_wp2_with (first
    | ((with_reducible refine gate_dst (N := 3) rfl ?_); refine box_event ?hg (N := 3) ?hd (cs := sCells d (.slice A6 data.length c6) (.slice A7 d.fields.length c7)) (t := 39) ?hr ?_; (case hd => rfl); (case hg => rfl); (case hr => first | (go_simp; done) | (go_simp; rfl)); intro g1 e1 w1 h1 k1)
    | ((with_reducible refine gate_dst (N := 5) rfl ?_); refine box_event ?hg (N := 5) ?hd (cs := lCells d) (t := 23) ?hr ?_; (case hd => rfl); (case hg => rfl); (case hr => first | (go_simp; done) | (go_simp; rfl)); intro g2 e2 w2 h2 k2)
    | ((with_reducible refine gate_dst (N := 6) rfl ?_); refine box_event ?hg (N := 6) ?hd (cs := zCells) (t := 39) ?hr ?_; (case hd => rfl); (case hg => rfl); (case hr => first | (go_simp; done) | (go_simp; rfl)); intro g3 e3 w3 h3 k3
       have M := Aside0.mk (SMid.start H.out.1 H.out.2 e1 h1 k1 e2 h2 k2 e3 h3 k3)
       have HW := Aside0.mk (below_step (below_step k1 k2) k3)
       obtain ⟨⟨a0_0, a1_0, a2_0, a3_0, a4_0, a5_0, a6_0, a7_0⟩, ⟨l0_0, l1_0, l2_0⟩, ⟨z0_0, z1_0, z2_0, z3_0, z4_0, z5_0, z6_0, z7_0⟩, f1_0, f3_0, n13, n12, n23⟩ := M.out.all
       clear h1 k1 h2 k2 h3 k3 e1 e2 e3))
  refine (catchpitref01_Digit.calls 17 c (digV c) _ HD.out).mono ?_
  rintro e w4 ⟨rfl, hd⟩
  have M4 := Aside0.mk (M.out.step (Drawn0.below hd))
  have HW4 := Aside0.mk (below_step HW.out (Drawn0.below hd))
  clear a0_0 a1_0 a2_0 a3_0 a4_0 a5_0 a6_0 a7_0 l0_0 l1_0 l2_0 z0_0 z1_0 z2_0 z3_0 z4_0 z5_0 z6_0 z7_0 f1_0 f3_0
  obtain ⟨⟨a0_4, a1_4, a2_4, a3_4, a4_4, a5_4, a6_4, a7_4⟩, ⟨l0_4, l1_4, l2_4⟩, ⟨z0_4, z1_4, z2_4, z3_4, z4_4, z5_4, z6_4, z7_4⟩, f1_4, f3_4, -, -, -⟩ := M4.out.all
  clear hd
  go_wp2_with fail
  obtain ⟨q1, q2, q3, q4⟩ := ((M4.out.set (d' := { d with n := IntKind.u64.wrap (IntKind.u64.wrap (16 * d.n) + IntKind.u64.wrap (digV c)) }) 1 (.int .u64 (IntKind.u64.wrap (IntKind.u64.wrap (16 * d.n) + IntKind.u64.wrap (digV c)))) rfl rfl rfl).set (d' := { d with n := IntKind.u64.wrap (IntKind.u64.wrap (16 * d.n) + IntKind.u64.wrap (digV c)), count := d.count + 1 }) 2 (.int .i64 (d.count + 1)) rfl rfl rfl).leaf
  refine bodyPost_ret (results_ct rfl _ _ g3 39 _ (0, 0) _ rfl q1 Tryd.underlying39 rfl (by kernel_rfl)) rfl ?_
  refine ⟨{ d with n := IntKind.u64.wrap (IntKind.u64.wrap (16 * d.n) + IntKind.u64.wrap (digV c)), count := d.count + 1, e := 0 }, data, _, _, ?_, ⟨q2.1, q2.2⟩, q3, q4, fun _ => ?_, fun h => absurd (by rw [HE.out]) h⟩
  · rw [HE.out]; rfl
  · rw [HE.out, HX.out]; exact ⟨rfl, (List.append_nil _).symm⟩

set_option maxHeartbeats 4000000 in
set_option maxRecDepth 100000 in
theorem step_0d {w0 w : World} {S : Nat → Prop} {d : Dc} {data : List Int} {vd vf : Value} (hB : Below w0.heap.size w0 w) (hr : SRows w w0.heap.size S d data vd vf) (hok : DInv d) (c : Int) (h0 : 0 ≤ c) (h1 : c ≤ 255) (he : d.e = 0) (hp : d.place = 0) (hd : ¬ digV c ≥ 0) (hc : d.count = 0) :
    Calls Tryd.prog 57 #[.agg (sCells d vd vf), .int .u8 c, .agg (lCells d)] w (SPost w0 w S d data c) := by
  obtain ⟨b0, b1, b2, b3, b4, b5, b6, b7, b8, b9, b10⟩ := placesB hp
  obtain ⟨o1, o2, o3, o4, o5, o6⟩ := rangesB hok.ok
  have HE : Aside0 ((bput d c).1.e = 2) := ⟨bput_no he (by omega) (by omega) (D := d) (by simp [dStep, hp, dDigit, hd, hc]) (by decide)⟩
  have bd : decide (0 ≤ digV c) = false := decide_eq_false (by omega)
  have bc : (d.count == 0) = true := by exact beq_iff_eq.mpr (by assumption)
  have HD := Aside0.mk (digit_f c h0 h1)
  obtain ⟨A6, c6, rfl⟩ := Kd.R_slice hr.data
  obtain ⟨A7, c7, rfl⟩ := Kd.R_slice hr.fields
  have H := Aside0.mk (And.intro hB hr)
  unfold sCells lCells
  clear hB hr hok h0 h1 he hp hd hc
  go_enter Tryd.func57, Tryd.ntmps57
  go_wp2_with (first
    | ((with_reducible refine gate_dst (N := 3) rfl ?_); refine box_event ?hg (N := 3) ?hd (cs := sCells d (.slice A6 data.length c6) (.slice A7 d.fields.length c7)) (t := 39) ?hr ?_; (case hd => rfl); (case hg => rfl); (case hr => first | (go_simp; done) | (go_simp; rfl)); intro g1 e1 w1 h1 k1)
    | ((with_reducible refine gate_dst (N := 5) rfl ?_); refine box_event ?hg (N := 5) ?hd (cs := lCells d) (t := 23) ?hr ?_; (case hd => rfl); (case hg => rfl); (case hr => first | (go_simp; done) | (go_simp; rfl)); intro g2 e2 w2 h2 k2)
    | ((with_reducible refine gate_dst (N := 6) rfl ?_); refine box_event ?hg (N := 6) ?hd (cs := zCells) (t := 39) ?hr ?_; (case hd => rfl); (case hg => rfl); (case hr => first | (go_simp; done) | (go_simp; rfl)); intro g3 e3 w3 h3 k3
       have M := Aside0.mk (SMid.start H.out.1 H.out.2 e1 h1 k1 e2 h2 k2 e3 h3 k3)
       have HW := Aside0.mk (below_step (below_step k1 k2) k3)
       obtain ⟨⟨a0_0, a1_0, a2_0, a3_0, a4_0, a5_0, a6_0, a7_0⟩, ⟨l0_0, l1_0, l2_0⟩, ⟨z0_0, z1_0, z2_0, z3_0, z4_0, z5_0, z6_0, z7_0⟩, f1_0, f3_0, n13, n12, n23⟩ := M.out.all
       clear h1 k1 h2 k2 h3 k3 e1 e2 e3))
  refine (catchpitref01_Digit.calls 17 c (digV c) _ HD.out).mono ?_
  rintro e w4 ⟨rfl, hd⟩
  have M4 := Aside0.mk (M.out.step (Drawn0.below hd))
  have HW4 := Aside0.mk (below_step HW.out (Drawn0.below hd))
  clear a0_0 a1_0 a2_0 a3_0 a4_0 a5_0 a6_0 a7_0 l0_0 l1_0 l2_0 z0_0 z1_0 z2_0 z3_0 z4_0 z5_0 z6_0 z7_0 f1_0 f3_0
  obtain ⟨⟨a0_4, a1_4, a2_4, a3_4, a4_4, a5_4, a6_4, a7_4⟩, ⟨l0_4, l1_4, l2_4⟩, ⟨z0_4, z1_4, z2_4, z3_4, z4_4, z5_4, z6_4, z7_4⟩, f1_4, f3_4, -, -, -⟩ := M4.out.all
  clear hd
  go_wp2_with fail
  obtain ⟨q1, q2, q3, q4⟩ := M4.out.leaf
  refine bodyPost_ret (results_ct rfl _ _ g3 39 _ (0, 0) _ rfl q1 Tryd.underlying39 rfl (by kernel_rfl)) rfl ?_
  exact ⟨_, _, _, _, by rw [HE.out]; rfl, q2, q3, q4, fun h => absurd (HE.out.symm.trans h) (by decide), fun _ => (leafB (d := d) (vd := .slice A6 data.length c6) (vf := .slice A7 d.fields.length c7) M4.out.r HW4.out M4.out.g3w).2⟩

set_option maxHeartbeats 4000000 in
set_option maxRecDepth 100000 in
theorem step_0e {w0 w : World} {S : Nat → Prop} {d : Dc} {data : List Int} {vd vf : Value} (hB : Below w0.heap.size w0 w) (hr : SRows w w0.heap.size S d data vd vf) (hok : DInv d) (c : Int) (h0 : 0 ≤ c) (h1 : c ≤ 255) (he : d.e = 0) (hp : d.place = 0) (hd : ¬ digV c ≥ 0) (hc : ¬ d.count = 0) (h59 : c ≠ 59) (h13 : c ≠ 13) :
    Calls Tryd.prog 57 #[.agg (sCells d vd vf), .int .u8 c, .agg (lCells d)] w (SPost w0 w S d data c) := by
  obtain ⟨b0, b1, b2, b3, b4, b5, b6, b7, b8, b9, b10⟩ := placesB hp
  obtain ⟨o1, o2, o3, o4, o5, o6⟩ := rangesB hok.ok
  have HE : Aside0 ((bput d c).1.e = 2) := ⟨bput_no he (by omega) (by omega) (D := d) (by simp [dStep, hp, dDigit, hd, hc, h59, h13, dTo]) (by decide)⟩
  have bd : decide (0 ≤ digV c) = false := decide_eq_false (by omega)
  have bc : (d.count == 0) = false := by exact beq_eq_false_iff_ne.mpr (by assumption)
  have b59 : (c != 59) = true := by exact bne_iff_ne.mpr (by assumption)
  have b13 : (c != 13) = true := by exact bne_iff_ne.mpr (by assumption)
  have HD := Aside0.mk (digit_f c h0 h1)
  obtain ⟨A6, c6, rfl⟩ := Kd.R_slice hr.data
  obtain ⟨A7, c7, rfl⟩ := Kd.R_slice hr.fields
  have H := Aside0.mk (And.intro hB hr)
  unfold sCells lCells
  clear hB hr hok h0 h1 he hp hd hc h59 h13
  go_enter Tryd.func57, Tryd.ntmps57
  go_wp2_with (first
    | ((with_reducible refine gate_dst (N := 3) rfl ?_); refine box_event ?hg (N := 3) ?hd (cs := sCells d (.slice A6 data.length c6) (.slice A7 d.fields.length c7)) (t := 39) ?hr ?_; (case hd => rfl); (case hg => rfl); (case hr => first | (go_simp; done) | (go_simp; rfl)); intro g1 e1 w1 h1 k1)
    | ((with_reducible refine gate_dst (N := 5) rfl ?_); refine box_event ?hg (N := 5) ?hd (cs := lCells d) (t := 23) ?hr ?_; (case hd => rfl); (case hg => rfl); (case hr => first | (go_simp; done) | (go_simp; rfl)); intro g2 e2 w2 h2 k2)
    | ((with_reducible refine gate_dst (N := 6) rfl ?_); refine box_event ?hg (N := 6) ?hd (cs := zCells) (t := 39) ?hr ?_; (case hd => rfl); (case hg => rfl); (case hr => first | (go_simp; done) | (go_simp; rfl)); intro g3 e3 w3 h3 k3
       have M := Aside0.mk (SMid.start H.out.1 H.out.2 e1 h1 k1 e2 h2 k2 e3 h3 k3)
       have HW := Aside0.mk (below_step (below_step k1 k2) k3)
       obtain ⟨⟨a0_0, a1_0, a2_0, a3_0, a4_0, a5_0, a6_0, a7_0⟩, ⟨l0_0, l1_0, l2_0⟩, ⟨z0_0, z1_0, z2_0, z3_0, z4_0, z5_0, z6_0, z7_0⟩, f1_0, f3_0, n13, n12, n23⟩ := M.out.all
       clear h1 k1 h2 k2 h3 k3 e1 e2 e3))
  refine (catchpitref01_Digit.calls 17 c (digV c) _ HD.out).mono ?_
  rintro e w4 ⟨rfl, hd⟩
  have M4 := Aside0.mk (M.out.step (Drawn0.below hd))
  have HW4 := Aside0.mk (below_step HW.out (Drawn0.below hd))
  clear a0_0 a1_0 a2_0 a3_0 a4_0 a5_0 a6_0 a7_0 l0_0 l1_0 l2_0 z0_0 z1_0 z2_0 z3_0 z4_0 z5_0 z6_0 z7_0 f1_0 f3_0
  obtain ⟨⟨a0_4, a1_4, a2_4, a3_4, a4_4, a5_4, a6_4, a7_4⟩, ⟨l0_4, l1_4, l2_4⟩, ⟨z0_4, z1_4, z2_4, z3_4, z4_4, z5_4, z6_4, z7_4⟩, f1_4, f3_4, -, -, -⟩ := M4.out.all
  clear hd
  go_wp2_with fail
  obtain ⟨q1, q2, q3, q4⟩ := M4.out.leaf
  refine bodyPost_ret (results_ct rfl _ _ g3 39 _ (0, 0) _ rfl q1 Tryd.underlying39 rfl (by kernel_rfl)) rfl ?_
  exact ⟨_, _, _, _, by rw [HE.out]; rfl, q2, q3, q4, fun h => absurd (HE.out.symm.trans h) (by decide), fun _ => (leafB (d := d) (vd := .slice A6 data.length c6) (vf := .slice A7 d.fields.length c7) M4.out.r HW4.out M4.out.g3w).2⟩

set_option maxHeartbeats 4000000 in
set_option maxRecDepth 100000 in
theorem step_0f {w0 w : World} {S : Nat → Prop} {d : Dc} {data : List Int} {vd vf : Value} (hB : Below w0.heap.size w0 w) (hr : SRows w w0.heap.size S d data vd vf) (hok : DInv d) (c : Int) (h0 : 0 ≤ c) (h1 : c ≤ 255) (he : d.e = 0) (hp : d.place = 0) (hd : ¬ digV c ≥ 0) (hc : ¬ d.count = 0) (h13 : c = 13) :
    Calls Tryd.prog 57 #[.agg (sCells d vd vf), .int .u8 c, .agg (lCells d)] w (SPost w0 w S d data c) := by
  obtain ⟨b0, b1, b2, b3, b4, b5, b6, b7, b8, b9, b10⟩ := placesB hp
  obtain ⟨o1, o2, o3, o4, o5, o6⟩ := rangesB hok.ok
  have h59 : c ≠ 59 := by omega
  have HE : Aside0 (bput d c = ({ { d with place := 2 } with e := 0 }, 1, [])) := ⟨bput_ok he (by omega) (by omega) (by simp [dStep, hp, dDigit, hd, hc, h59, h13, dTo, (show ¬ digV 13 ≥ 0 by decide)])⟩
  have bd : decide (0 ≤ digV c) = false := decide_eq_false (by omega)
  have bc : (d.count == 0) = false := by exact beq_eq_false_iff_ne.mpr (by assumption)
  have b59 : (c != 59) = true := by exact bne_iff_ne.mpr (by assumption)
  have b13 : (c != 13) = false := by exact bne_eq_false_iff_eq.mpr (by assumption)
  have q13 : (c == 13) = true := by exact beq_iff_eq.mpr (by assumption)
  have HD := Aside0.mk (digit_f c h0 h1)
  clear h59
  obtain ⟨A6, c6, rfl⟩ := Kd.R_slice hr.data
  obtain ⟨A7, c7, rfl⟩ := Kd.R_slice hr.fields
  have H := Aside0.mk (And.intro hB hr)
  unfold sCells lCells
  clear hB hr hok h0 h1 he hp hd hc h13
  go_enter Tryd.func57, Tryd.ntmps57
  go_wp2_with (first
    | ((with_reducible refine gate_dst (N := 3) rfl ?_); refine box_event ?hg (N := 3) ?hd (cs := sCells d (.slice A6 data.length c6) (.slice A7 d.fields.length c7)) (t := 39) ?hr ?_; (case hd => rfl); (case hg => rfl); (case hr => first | (go_simp; done) | (go_simp; rfl)); intro g1 e1 w1 h1 k1)
    | ((with_reducible refine gate_dst (N := 5) rfl ?_); refine box_event ?hg (N := 5) ?hd (cs := lCells d) (t := 23) ?hr ?_; (case hd => rfl); (case hg => rfl); (case hr => first | (go_simp; done) | (go_simp; rfl)); intro g2 e2 w2 h2 k2)
    | ((with_reducible refine gate_dst (N := 6) rfl ?_); refine box_event ?hg (N := 6) ?hd (cs := zCells) (t := 39) ?hr ?_; (case hd => rfl); (case hg => rfl); (case hr => first | (go_simp; done) | (go_simp; rfl)); intro g3 e3 w3 h3 k3
       have M := Aside0.mk (SMid.start H.out.1 H.out.2 e1 h1 k1 e2 h2 k2 e3 h3 k3)
       have HW := Aside0.mk (below_step (below_step k1 k2) k3)
       obtain ⟨⟨a0_0, a1_0, a2_0, a3_0, a4_0, a5_0, a6_0, a7_0⟩, ⟨l0_0, l1_0, l2_0⟩, ⟨z0_0, z1_0, z2_0, z3_0, z4_0, z5_0, z6_0, z7_0⟩, f1_0, f3_0, n13, n12, n23⟩ := M.out.all
       clear h1 k1 h2 k2 h3 k3 e1 e2 e3))
  refine (catchpitref01_Digit.calls 17 c (digV c) _ HD.out).mono ?_
  rintro e w4 ⟨rfl, hd⟩
  have M4 := Aside0.mk (M.out.step (Drawn0.below hd))
  have HW4 := Aside0.mk (below_step HW.out (Drawn0.below hd))
  clear a0_0 a1_0 a2_0 a3_0 a4_0 a5_0 a6_0 a7_0 l0_0 l1_0 l2_0 z0_0 z1_0 z2_0 z3_0 z4_0 z5_0 z6_0 z7_0 f1_0 f3_0
  obtain ⟨⟨a0_4, a1_4, a2_4, a3_4, a4_4, a5_4, a6_4, a7_4⟩, ⟨l0_4, l1_4, l2_4⟩, ⟨z0_4, z1_4, z2_4, z3_4, z4_4, z5_4, z6_4, z7_4⟩, f1_4, f3_4, -, -, -⟩ := M4.out.all
  clear hd
  go_wp2_with fail
  obtain ⟨q1, q2, q3, q4⟩ := (M4.out.set (d' := { d with place := 2 }) 0 (.int .i64 2) rfl rfl rfl).leaf
  refine bodyPost_ret (results_ct rfl _ _ g3 39 _ (0, 0) _ rfl q1 Tryd.underlying39 rfl (by kernel_rfl)) rfl ?_
  refine ⟨{ d with place := 2, e := 0 }, data, _, _, ?_, ⟨q2.1, q2.2⟩, q3, q4, fun _ => ?_, fun h => absurd (by rw [HE.out]) h⟩
  · rw [HE.out]; rfl
  · rw [HE.out]; exact ⟨rfl, (List.append_nil _).symm⟩

set_option maxHeartbeats 4000000 in
set_option maxRecDepth 100000 in
theorem step_0g {w0 w : World} {S : Nat → Prop} {d : Dc} {data : List Int} {vd vf : Value} (hB : Below w0.heap.size w0 w) (hr : SRows w w0.heap.size S d data vd vf) (hok : DInv d) (c : Int) (h0 : 0 ≤ c) (h1 : c ≤ 255) (he : d.e = 0) (hp : d.place = 0) (hd : ¬ digV c ≥ 0) (hc : ¬ d.count = 0) (h59 : c = 59) (hx : d.ext < 1) :
    Calls Tryd.prog 57 #[.agg (sCells d vd vf), .int .u8 c, .agg (lCells d)] w (SPost w0 w S d data c) := by
  obtain ⟨b0, b1, b2, b3, b4, b5, b6, b7, b8, b9, b10⟩ := placesB hp
  obtain ⟨o1, o2, o3, o4, o5, o6⟩ := rangesB hok.ok
  have hE0 := hok.ok.ext0
  have ht : textB 59 = true := by decide
  have hx0 : d.ext ≤ 0 := by omega
  have HE : Aside0 ((bput d c).1.e = 5) := ⟨bput_no he (by omega) (by omega) (D := { d with count := 1, place := 0 }) (by simp [dStep, hp, dDigit, dExt, hd, hc, h59, ht, hx0, (show ¬ digV 59 ≥ 0 by decide)]) (by decide)⟩
  have bd : decide (0 ≤ digV c) = false := decide_eq_false (by omega)
  have bc : (d.count == 0) = false := by exact beq_eq_false_iff_ne.mpr (by assumption)
  have b59 : (c != 59) = false := by exact bne_eq_false_iff_eq.mpr (by assumption)
  have q13 : (c == 13) = false := beq_eq_false_iff_ne.mpr (by omega)
  have bx : decide (d.ext < 1) = true := decide_eq_true hx
  have HD := Aside0.mk (digit_f c h0 h1)
  clear ht hx0
  obtain ⟨A6, c6, rfl⟩ := Kd.R_slice hr.data
  obtain ⟨A7, c7, rfl⟩ := Kd.R_slice hr.fields
  have H := Aside0.mk (And.intro hB hr)
  unfold sCells lCells
  clear hB hr hok h0 h1 he hp hd hc h59 hx
  go_enter Tryd.func57, Tryd.ntmps57
  go_wp2_with (first
    | ((with_reducible refine gate_dst (N := 3) rfl ?_); refine box_event ?hg (N := 3) ?hd (cs := sCells d (.slice A6 data.length c6) (.slice A7 d.fields.length c7)) (t := 39) ?hr ?_; (case hd => rfl); (case hg => rfl); (case hr => first | (go_simp; done) | (go_simp; rfl)); intro g1 e1 w1 h1 k1)
    | ((with_reducible refine gate_dst (N := 5) rfl ?_); refine box_event ?hg (N := 5) ?hd (cs := lCells d) (t := 23) ?hr ?_; (case hd => rfl); (case hg => rfl); (case hr => first | (go_simp; done) | (go_simp; rfl)); intro g2 e2 w2 h2 k2)
    | ((with_reducible refine gate_dst (N := 6) rfl ?_); refine box_event ?hg (N := 6) ?hd (cs := zCells) (t := 39) ?hr ?_; (case hd => rfl); (case hg => rfl); (case hr => first | (go_simp; done) | (go_simp; rfl)); intro g3 e3 w3 h3 k3
       have M := Aside0.mk (SMid.start H.out.1 H.out.2 e1 h1 k1 e2 h2 k2 e3 h3 k3)
       have HW := Aside0.mk (below_step (below_step k1 k2) k3)
       obtain ⟨⟨a0_0, a1_0, a2_0, a3_0, a4_0, a5_0, a6_0, a7_0⟩, ⟨l0_0, l1_0, l2_0⟩, ⟨z0_0, z1_0, z2_0, z3_0, z4_0, z5_0, z6_0, z7_0⟩, f1_0, f3_0, n13, n12, n23⟩ := M.out.all
       clear h1 k1 h2 k2 h3 k3 e1 e2 e3))
  refine (catchpitref01_Digit.calls 17 c (digV c) _ HD.out).mono ?_
  rintro e w4 ⟨rfl, hd⟩
  have M4 := Aside0.mk (M.out.step (Drawn0.below hd))
  have HW4 := Aside0.mk (below_step HW.out (Drawn0.below hd))
  clear a0_0 a1_0 a2_0 a3_0 a4_0 a5_0 a6_0 a7_0 l0_0 l1_0 l2_0 z0_0 z1_0 z2_0 z3_0 z4_0 z5_0 z6_0 z7_0 f1_0 f3_0
  obtain ⟨⟨a0_4, a1_4, a2_4, a3_4, a4_4, a5_4, a6_4, a7_4⟩, ⟨l0_4, l1_4, l2_4⟩, ⟨z0_4, z1_4, z2_4, z3_4, z4_4, z5_4, z6_4, z7_4⟩, f1_4, f3_4, -, -, -⟩ := M4.out.all
  clear hd
  go_wp2_with fail
  obtain ⟨q1, q2, q3, q4⟩ := M4.out.leaf
  refine bodyPost_ret (results_ct rfl _ _ g3 39 _ (0, 0) _ rfl q1 Tryd.underlying39 rfl (by kernel_rfl)) rfl ?_
  exact ⟨_, _, _, _, by rw [HE.out]; rfl, q2, q3, q4, fun h => absurd (HE.out.symm.trans h) (by decide), fun _ => (leafB (d := d) (vd := .slice A6 data.length c6) (vf := .slice A7 d.fields.length c7) M4.out.r HW4.out M4.out.g3w).2⟩

set_option maxHeartbeats 4000000 in
set_option maxRecDepth 100000 in
theorem step_0h {w0 w : World} {S : Nat → Prop} {d : Dc} {data : List Int} {vd vf : Value} (hB : Below w0.heap.size w0 w) (hr : SRows w w0.heap.size S d data vd vf) (hok : DInv d) (c : Int) (h0 : 0 ≤ c) (h1 : c ≤ 255) (he : d.e = 0) (hp : d.place = 0) (hd : ¬ digV c ≥ 0) (hc : ¬ d.count = 0) (h59 : c = 59) (hx : ¬ d.ext < 1) :
    Calls Tryd.prog 57 #[.agg (sCells d vd vf), .int .u8 c, .agg (lCells d)] w (SPost w0 w S d data c) := by
  obtain ⟨b0, b1, b2, b3, b4, b5, b6, b7, b8, b9, b10⟩ := placesB hp
  obtain ⟨o1, o2, o3, o4, o5, o6⟩ := rangesB hok.ok
  have ht : textB 59 = true := by decide
  have hx0 : ¬ d.ext ≤ 0 := by omega
  have HE : Aside0 (bput d c = ({ { d with count := 1, place := 1 } with e := 0 }, 1, [])) := ⟨bput_ok he (by omega) (by omega) (by simp [dStep, hp, dDigit, dExt, hd, hc, h59, ht, hx0, (show ¬ digV 59 ≥ 0 by decide)])⟩
  have bd : decide (0 ≤ digV c) = false := decide_eq_false (by omega)
  have bc : (d.count == 0) = false := by exact beq_eq_false_iff_ne.mpr (by assumption)
  have b59 : (c != 59) = false := by exact bne_eq_false_iff_eq.mpr (by assumption)
  have q13 : (c == 13) = false := beq_eq_false_iff_ne.mpr (by omega)
  have bx : decide (d.ext < 1) = false := decide_eq_false hx
  have HD := Aside0.mk (digit_f c h0 h1)
  clear ht hx0
  obtain ⟨A6, c6, rfl⟩ := Kd.R_slice hr.data
  obtain ⟨A7, c7, rfl⟩ := Kd.R_slice hr.fields
  have H := Aside0.mk (And.intro hB hr)
  unfold sCells lCells
  clear hB hr hok h0 h1 he hp hd hc h59 hx
  go_enter Tryd.func57, Tryd.ntmps57
  go_wp2_with (first
    | ((with_reducible refine gate_dst (N := 3) rfl ?_); refine box_event ?hg (N := 3) ?hd (cs := sCells d (.slice A6 data.length c6) (.slice A7 d.fields.length c7)) (t := 39) ?hr ?_; (case hd => rfl); (case hg => rfl); (case hr => first | (go_simp; done) | (go_simp; rfl)); intro g1 e1 w1 h1 k1)
    | ((with_reducible refine gate_dst (N := 5) rfl ?_); refine box_event ?hg (N := 5) ?hd (cs := lCells d) (t := 23) ?hr ?_; (case hd => rfl); (case hg => rfl); (case hr => first | (go_simp; done) | (go_simp; rfl)); intro g2 e2 w2 h2 k2)
    | ((with_reducible refine gate_dst (N := 6) rfl ?_); refine box_event ?hg (N := 6) ?hd (cs := zCells) (t := 39) ?hr ?_; (case hd => rfl); (case hg => rfl); (case hr => first | (go_simp; done) | (go_simp; rfl)); intro g3 e3 w3 h3 k3
       have M := Aside0.mk (SMid.start H.out.1 H.out.2 e1 h1 k1 e2 h2 k2 e3 h3 k3)
       have HW := Aside0.mk (below_step (below_step k1 k2) k3)
       obtain ⟨⟨a0_0, a1_0, a2_0, a3_0, a4_0, a5_0, a6_0, a7_0⟩, ⟨l0_0, l1_0, l2_0⟩, ⟨z0_0, z1_0, z2_0, z3_0, z4_0, z5_0, z6_0, z7_0⟩, f1_0, f3_0, n13, n12, n23⟩ := M.out.all
       clear h1 k1 h2 k2 h3 k3 e1 e2 e3))
  refine (catchpitref01_Digit.calls 17 c (digV c) _ HD.out).mono ?_
  rintro e w4 ⟨rfl, hd⟩
  have M4 := Aside0.mk (M.out.step (Drawn0.below hd))
  have HW4 := Aside0.mk (below_step HW.out (Drawn0.below hd))
  clear a0_0 a1_0 a2_0 a3_0 a4_0 a5_0 a6_0 a7_0 l0_0 l1_0 l2_0 z0_0 z1_0 z2_0 z3_0 z4_0 z5_0 z6_0 z7_0 f1_0 f3_0
  obtain ⟨⟨a0_4, a1_4, a2_4, a3_4, a4_4, a5_4, a6_4, a7_4⟩, ⟨l0_4, l1_4, l2_4⟩, ⟨z0_4, z1_4, z2_4, z3_4, z4_4, z5_4, z6_4, z7_4⟩, f1_4, f3_4, -, -, -⟩ := M4.out.all
  clear hd
  go_wp2_with fail
  obtain ⟨q1, q2, q3, q4⟩ := ((M4.out.set (d' := { d with place := 1 }) 0 (.int .i64 1) rfl rfl rfl).set (d' := { d with place := 1, count := 1 }) 2 (.int .i64 1) rfl rfl rfl).leaf
  refine bodyPost_ret (results_ct rfl _ _ g3 39 _ (0, 0) _ rfl q1 Tryd.underlying39 rfl (by kernel_rfl)) rfl ?_
  refine ⟨{ d with place := 1, count := 1, e := 0 }, data, _, _, ?_, ⟨q2.1, q2.2⟩, q3, q4, fun _ => ?_, fun h => absurd (by rw [HE.out]) h⟩
  · rw [HE.out]; rfl
  · rw [HE.out]; exact ⟨rfl, (List.append_nil _).symm⟩

end Go.Proofs.YtebjfgkgfgbndaaDoor

namespace Go.Proofs.YtebjfgkgfgbndaaDoor
open Go.RowKit Go.Proofs.YtebjfgkgfgbndaaDoorW.PrintWords Go.Proofs.YtebjfgkgfgbndaaDoorW.PrintLast Go.Proofs.YtebjfgkgfgbndaaDoorW.PrintMore
open PBodyScans
set_option linter.unusedVariables false
set_option linter.unusedSimpArgs false

theorem SMid.stay5 {w0 w w3 w4 w5 : World} {g1 g2 g3 : Nat} {S : Nat → Prop} {d : Dc} {data : List Int} {vd vf v1 : Value} {l1 : List Int} (h : SMid w0 w g1 g2 g3 w4 S d data vd vf) (hg : w4.grownBy w5 v1.ownBlock) (hB : Below w0.heap.size w0 w5) (h3 : SMid w0 w g1 g2 g3 w3 S d data vd vf)
    (hR : Kd.R (Kd.int .u8) 5 w4 w0.heap.size (fun k => w3.heap.size ≤ k) v1 l1) (hz : w3.heap.size ≤ w4.heap.size) (hm : ∀ k, k < w3.heap.size → w4.heap[k]? = w3.heap[k]?) : SMid w0 w g1 g2 g3 w5 S d data vd vf :=
  h3.stay (fun k hk => (hg.block k (Nat.lt_of_lt_of_le hk hz) (fun e => by have := hR.1 k e.symm; omega)).trans (hm k hk)) (Nat.le_trans hz hg.size) hB

set_option maxHeartbeats 4000000 in
set_option maxRecDepth 100000 in
theorem step_3a {w0 w : World} {S : Nat → Prop} {d : Dc} {data : List Int} {vd vf : Value} (hB : Below w0.heap.size w0 w) (hr : SRows w w0.heap.size S d data vd vf) (hok : DInv d) (c : Int) (h0 : 0 ≤ c) (h1 : c ≤ 255) (he : d.e = 0) (hp : d.place = 3) (hl : data.length ≤ 1000000) (hz : d.n - 1 = 0) :
    Calls Tryd.prog 57 #[.agg (sCells d vd vf), .int .u8 c, .agg (lCells d)] w (SPost w0 w S d data c) := by
  obtain ⟨b0, b1, b2, b3, b4, b5, b6, b7, b8, b9, b10⟩ := placesB hp
  obtain ⟨o1, o2, o3, o4, o5, o6⟩ := rangesB hok.ok
  have n1 := hok.n3 hp
  have HE : Aside0 (bput d c = ({ d with n := d.n - 1, place := 4 }, 1, [c])) := ⟨by unfold bput; rw [if_pos he, if_pos (by omega), if_pos hp, if_pos hz]⟩
  have HLL : Aside0 ((([] : List Int).length + data.length) * 1 ≤ 140737488355328) := ⟨by simp only [List.length_nil]; omega⟩
  have HLL2 : Aside0 ((([] ++ data : List Int).length + 1) * 1 ≤ 140737488355328) := ⟨by simp only [List.nil_append]; omega⟩
  have bz : (d.n - 1 == 0) = true := by exact beq_iff_eq.mpr hz
  have HE0 := Aside0.mk he
  obtain ⟨A6, c6, rfl⟩ := Kd.R_slice hr.data
  obtain ⟨A7, c7, rfl⟩ := Kd.R_slice hr.fields
  have H := Aside0.mk (And.intro hB hr)
  unfold sCells lCells
  clear hB hr hok h0 h1 he hp hl hz
  go_enter Tryd.func57, Tryd.ntmps57
  go_wp2_with (first
    | ((with_reducible refine gate_dst (N := 3) rfl ?_); refine box_event ?hg (N := 3) ?hd (cs := sCells d (.slice A6 data.length c6) (.slice A7 d.fields.length c7)) (t := 39) ?hr ?_; (case hd => rfl); (case hg => rfl); (case hr => first | (go_simp; done) | (go_simp; rfl)); intro g1 e1 w1 h1 k1)
    | ((with_reducible refine gate_dst (N := 5) rfl ?_); refine box_event ?hg (N := 5) ?hd (cs := lCells d) (t := 23) ?hr ?_; (case hd => rfl); (case hg => rfl); (case hr => first | (go_simp; done) | (go_simp; rfl)); intro g2 e2 w2 h2 k2)
    | ((with_reducible refine gate_dst (N := 6) rfl ?_); refine box_event ?hg (N := 6) ?hd (cs := zCells) (t := 39) ?hr ?_; (case hd => rfl); (case hg => rfl); (case hr => first | (go_simp; done) | (go_simp; rfl)); intro g3 e3 w3 h3 k3
       have M := Aside0.mk (SMid.start H.out.1 H.out.2 e1 h1 k1 e2 h2 k2 e3 h3 k3)
       have HW := Aside0.mk (below_step (below_step k1 k2) k3)
       obtain ⟨⟨a0_0, a1_0, a2_0, a3_0, a4_0, a5_0, a6_0, a7_0⟩, ⟨l0_0, l1_0, l2_0⟩, ⟨z0_0, z1_0, z2_0, z3_0, z4_0, z5_0, z6_0, z7_0⟩, f1_0, f3_0, n13, n12, n23⟩ := M.out.all
       have HC : Aside0 (Kd.C (Kd.int .u8) w3 A6 data.length data) := ⟨by
         obtain ⟨A, cc, hh, hle, hcc⟩ := Kd.R_reads M.out.rows.data
         simp only [Value.slice.injEq] at hh
         obtain ⟨rfl, -, rfl⟩ := hh
         exact hcc⟩
       clear h1 k1 h2 k2 h3 k3 e1 e2 e3)
    | ((with_reducible refine gate_builtin (b := .append) (xs := #[.tmp 129, .tmp 131]) rfl ?_); at_builtin; (refine Kd.R_append_rows (Kd.int .u8) (Rr := (Kd.int .u8).K w3) (w0 := w0) w0.heap.size rfl (.tmp 129) (.tmp 131) 24 5 (.int .u8 0) 1 rfl Tryd.underlying24 info5 rfl (by decide) (by decide) (.slice none 0 0) [] data A6 data.length c6 (fun k => w3.heap.size ≤ k) (fun _ => False) rfl rfl (Kd.R_nil _ _ _ _ _) HC.out (fun _ _ h => h) (fun _ h => h.elim) (fun _ h => h) M.out.below M.out.below.size HLL.out ?_); intro v1 w4 hR1 hB1 hg1 hat1
       have M4 := Aside0.mk (M.out.stay (fun k hk => hg1.block k hk (by simp [Value.ownBlock])) hg1.size hB1)
       have R1 := Aside0.mk hR1
       have hz4 := Aside0.mk hg1.size
       have hm4 := Aside0.mk (show ∀ k, k < w3.heap.size → w4.heap[k]? = w3.heap[k]? from fun k hk => hg1.block k hk (by simp [Value.ownBlock]))
       obtain ⟨A1, n1, k1, rfl⟩ := R_form hR1
       clear hR1 hB1 hg1 hat1 a0_0 a1_0 a2_0 a3_0 a4_0 a5_0 a6_0 a7_0 l0_0 l1_0 l2_0 z0_0 z1_0 z2_0 z3_0 z4_0 z5_0 z6_0 z7_0 f1_0 f3_0)
    | ((with_reducible refine gate_builtin (b := .append) (xs := #[.tmp 133, .tmp 135]) rfl ?_); at_builtin; (refine R_append_at (Kd.int .u8) (w0 := w0) w0.heap.size rfl (.tmp 133) (.tmp 135) 24 5 (.int .u8 0) 1 rfl Tryd.underlying24 info5 rfl (by decide) (by decide) (.slice A1 n1 k1) ([] ++ data) c [.int .u8 c] (fun k => w3.heap.size ≤ k) (fun _ => False) w4.heap.size rfl rfl rfl rfl (fun _ h => h.elim) (fun k hk => Nat.le_trans hz4.out hk) R1.out M4.out.below M4.out.below.size HLL2.out ?_); intro v2 w5 hR2 hB2 hg2 hat2
       have M5 := Aside0.mk (M4.out.stay5 hg2 hB2 M.out R1.out hz4.out hm4.out)
       have R2 := Aside0.mk (Kd.R_mono (ok' := fun k => S k ∨ w.heap.size ≤ k) hR2 (fun k hk => .inr (Nat.le_trans M.out.kept.1 hk)))
       obtain ⟨A2, n2, k2, rfl⟩ := R_form hR2
       clear hR2 hB2 hg2 hat2
       obtain ⟨⟨a0_5, a1_5, a2_5, a3_5, a4_5, a5_5, a6_5, a7_5⟩, ⟨l0_5, l1_5, l2_5⟩, ⟨z0_5, z1_5, z2_5, z3_5, z4_5, z5_5, z6_5, z7_5⟩, f1_5, f3_5, -, -, -⟩ := M5.out.all))
  obtain ⟨q1, q2, q3, q4⟩ := (((M5.out.setd R2.out).set (d' := { d with n := d.n - 1 }) 1 (.int .u64 (d.n - 1)) rfl rfl rfl).set (d' := { d with n := d.n - 1, place := 4 }) 0 (.int .i64 4) rfl rfl rfl).leaf
  refine bodyPost_ret (results_ct rfl _ _ g3 39 _ (0, 0) _ rfl q1 Tryd.underlying39 rfl (by kernel_rfl)) rfl ?_
  refine ⟨{ d with n := d.n - 1, place := 4 }, data ++ [c], _, _, ?_, ⟨q2.1, q2.2⟩, q3, q4, fun _ => ?_, fun h => absurd (by rw [HE.out]; exact HE0.out) h⟩
  · rw [HE.out]; show Ending.returned (.tuple #[.agg (sCells { d with n := d.n - 1, place := 4 } (Value.slice A2 n2 k2) (Value.slice A7 d.fields.length c7)), .int .i64 0]) = Ending.returned (.tuple #[.agg _, .int .i64 d.e]); rw [HE0.out]
  · rw [HE.out]; exact ⟨rfl, rfl⟩

set_option maxHeartbeats 4000000 in
set_option maxRecDepth 100000 in
theorem step_3b {w0 w : World} {S : Nat → Prop} {d : Dc} {data : List Int} {vd vf : Value} (hB : Below w0.heap.size w0 w) (hr : SRows w w0.heap.size S d data vd vf) (hok : DInv d) (c : Int) (h0 : 0 ≤ c) (h1 : c ≤ 255) (he : d.e = 0) (hp : d.place = 3) (hl : data.length ≤ 1000000) (hz : ¬ d.n - 1 = 0) :
    Calls Tryd.prog 57 #[.agg (sCells d vd vf), .int .u8 c, .agg (lCells d)] w (SPost w0 w S d data c) := by
  obtain ⟨b0, b1, b2, b3, b4, b5, b6, b7, b8, b9, b10⟩ := placesB hp
  obtain ⟨o1, o2, o3, o4, o5, o6⟩ := rangesB hok.ok
  have n1 := hok.n3 hp
  have HE : Aside0 (bput d c = ({ d with n := d.n - 1, place := 3 }, 1, [c])) := ⟨by unfold bput; rw [if_pos he, if_pos (by omega), if_pos hp, if_neg hz]⟩
  have HLL : Aside0 ((([] : List Int).length + data.length) * 1 ≤ 140737488355328) := ⟨by simp only [List.length_nil]; omega⟩
  have HLL2 : Aside0 ((([] ++ data : List Int).length + 1) * 1 ≤ 140737488355328) := ⟨by simp only [List.nil_append]; omega⟩
  have bz : (d.n - 1 == 0) = false := by exact beq_eq_false_iff_ne.mpr hz
  have HE0 := Aside0.mk he
  have HP := Aside0.mk hp
  obtain ⟨A6, c6, rfl⟩ := Kd.R_slice hr.data
  obtain ⟨A7, c7, rfl⟩ := Kd.R_slice hr.fields
  have H := Aside0.mk (And.intro hB hr)
  unfold sCells lCells
  clear hB hr hok h0 h1 he hp hl hz
  go_enter Tryd.func57, Tryd.ntmps57
  go_wp2_with (first
    | ((with_reducible refine gate_dst (N := 3) rfl ?_); refine box_event ?hg (N := 3) ?hd (cs := sCells d (.slice A6 data.length c6) (.slice A7 d.fields.length c7)) (t := 39) ?hr ?_; (case hd => rfl); (case hg => rfl); (case hr => first | (go_simp; done) | (go_simp; rfl)); intro g1 e1 w1 h1 k1)
    | ((with_reducible refine gate_dst (N := 5) rfl ?_); refine box_event ?hg (N := 5) ?hd (cs := lCells d) (t := 23) ?hr ?_; (case hd => rfl); (case hg => rfl); (case hr => first | (go_simp; done) | (go_simp; rfl)); intro g2 e2 w2 h2 k2)
    | ((with_reducible refine gate_dst (N := 6) rfl ?_); refine box_event ?hg (N := 6) ?hd (cs := zCells) (t := 39) ?hr ?_; (case hd => rfl); (case hg => rfl); (case hr => first | (go_simp; done) | (go_simp; rfl)); intro g3 e3 w3 h3 k3
       have M := Aside0.mk (SMid.start H.out.1 H.out.2 e1 h1 k1 e2 h2 k2 e3 h3 k3)
       have HW := Aside0.mk (below_step (below_step k1 k2) k3)
       obtain ⟨⟨a0_0, a1_0, a2_0, a3_0, a4_0, a5_0, a6_0, a7_0⟩, ⟨l0_0, l1_0, l2_0⟩, ⟨z0_0, z1_0, z2_0, z3_0, z4_0, z5_0, z6_0, z7_0⟩, f1_0, f3_0, n13, n12, n23⟩ := M.out.all
       have HC : Aside0 (Kd.C (Kd.int .u8) w3 A6 data.length data) := ⟨by
         obtain ⟨A, cc, hh, hle, hcc⟩ := Kd.R_reads M.out.rows.data
         simp only [Value.slice.injEq] at hh
         obtain ⟨rfl, -, rfl⟩ := hh
         exact hcc⟩
       clear h1 k1 h2 k2 h3 k3 e1 e2 e3)
    | ((with_reducible refine gate_builtin (b := .append) (xs := #[.tmp 129, .tmp 131]) rfl ?_); at_builtin; (refine Kd.R_append_rows (Kd.int .u8) (Rr := (Kd.int .u8).K w3) (w0 := w0) w0.heap.size rfl (.tmp 129) (.tmp 131) 24 5 (.int .u8 0) 1 rfl Tryd.underlying24 info5 rfl (by decide) (by decide) (.slice none 0 0) [] data A6 data.length c6 (fun k => w3.heap.size ≤ k) (fun _ => False) rfl rfl (Kd.R_nil _ _ _ _ _) HC.out (fun _ _ h => h) (fun _ h => h.elim) (fun _ h => h) M.out.below M.out.below.size HLL.out ?_); intro v1 w4 hR1 hB1 hg1 hat1
       have M4 := Aside0.mk (M.out.stay (fun k hk => hg1.block k hk (by simp [Value.ownBlock])) hg1.size hB1)
       have R1 := Aside0.mk hR1
       have hz4 := Aside0.mk hg1.size
       have hm4 := Aside0.mk (show ∀ k, k < w3.heap.size → w4.heap[k]? = w3.heap[k]? from fun k hk => hg1.block k hk (by simp [Value.ownBlock]))
       obtain ⟨A1, n1, k1, rfl⟩ := R_form hR1
       clear hR1 hB1 hg1 hat1 a0_0 a1_0 a2_0 a3_0 a4_0 a5_0 a6_0 a7_0 l0_0 l1_0 l2_0 z0_0 z1_0 z2_0 z3_0 z4_0 z5_0 z6_0 z7_0 f1_0 f3_0)
    | ((with_reducible refine gate_builtin (b := .append) (xs := #[.tmp 133, .tmp 135]) rfl ?_); at_builtin; (refine R_append_at (Kd.int .u8) (w0 := w0) w0.heap.size rfl (.tmp 133) (.tmp 135) 24 5 (.int .u8 0) 1 rfl Tryd.underlying24 info5 rfl (by decide) (by decide) (.slice A1 n1 k1) ([] ++ data) c [.int .u8 c] (fun k => w3.heap.size ≤ k) (fun _ => False) w4.heap.size rfl rfl rfl rfl (fun _ h => h.elim) (fun k hk => Nat.le_trans hz4.out hk) R1.out M4.out.below M4.out.below.size HLL2.out ?_); intro v2 w5 hR2 hB2 hg2 hat2
       have M5 := Aside0.mk (M4.out.stay5 hg2 hB2 M.out R1.out hz4.out hm4.out)
       have R2 := Aside0.mk (Kd.R_mono (ok' := fun k => S k ∨ w.heap.size ≤ k) hR2 (fun k hk => .inr (Nat.le_trans M.out.kept.1 hk)))
       obtain ⟨A2, n2, k2, rfl⟩ := R_form hR2
       clear hR2 hB2 hg2 hat2
       obtain ⟨⟨a0_5, a1_5, a2_5, a3_5, a4_5, a5_5, a6_5, a7_5⟩, ⟨l0_5, l1_5, l2_5⟩, ⟨z0_5, z1_5, z2_5, z3_5, z4_5, z5_5, z6_5, z7_5⟩, f1_5, f3_5, -, -, -⟩ := M5.out.all))
  obtain ⟨q1, q2, q3, q4⟩ := ((M5.out.setd R2.out).set (d' := { d with n := d.n - 1 }) 1 (.int .u64 (d.n - 1)) rfl rfl rfl).leaf
  refine bodyPost_ret (results_ct rfl _ _ g3 39 _ (0, 0) _ rfl q1 Tryd.underlying39 rfl (by kernel_rfl)) rfl ?_
  refine ⟨{ d with n := d.n - 1, place := 3 }, data ++ [c], _, _, ?_, ⟨q2.1, q2.2⟩, q3, q4, fun _ => ?_, fun h => absurd (by rw [HE.out]; exact HE0.out) h⟩
  · rw [HE.out]; show Ending.returned (.tuple #[.agg (sCells { d with n := d.n - 1 } (Value.slice A2 n2 k2) (Value.slice A7 d.fields.length c7)), .int .i64 0]) = Ending.returned (.tuple #[.agg (sCells { d with n := d.n - 1, place := 3 } _ _), .int .i64 d.e]); rw [HE0.out, HP.out]
  · rw [HE.out]; exact ⟨rfl, rfl⟩

end Go.Proofs.YtebjfgkgfgbndaaDoor

namespace Go.Proofs.YtebjfgkgfgbndaaDoor
open Go.RowKit Go.Proofs.YtebjfgkgfgbndaaDoorW.PrintWords Go.Proofs.YtebjfgkgfgbndaaDoorW.PrintLast Go.Proofs.YtebjfgkgfgbndaaDoorW.PrintMore
open PBodyScans
set_option linter.unusedVariables false
set_option linter.unusedSimpArgs false

theorem step_calls {w0 w : World} {S : Nat → Prop} {d : Dc} {data : List Int} {vd vf : Value} (hB : Below w0.heap.size w0 w) (hr : SRows w w0.heap.size S d data vd vf) (hok : DInv d) (c : Int) (h0 : 0 ≤ c) (h1 : c ≤ 255) (he : d.e = 0) (h11 : d.place ≠ 11) (hl : data.length ≤ 1000000) :
    Calls Tryd.prog 57 #[.agg (sCells d vd vf), .int .u8 c, .agg (lCells d)] w (SPost w0 w S d data c) := by
  have hp0 := hok.p0
  have hp1 := hok.p1
  by_cases e0 : d.place = 0
  · by_cases hd : digV c ≥ 0
    · by_cases hc : d.count = 16
      · exact step_0a hB hr hok c h0 h1 he e0 hd hc
      · by_cases hn : d.n > (4611686018427387903 - digV c) / 16
        · exact step_0b hB hr hok c h0 h1 he e0 hd hc hn
        · exact step_0c hB hr hok c h0 h1 he e0 hd hc hn
    · by_cases hc : d.count = 0
      · exact step_0d hB hr hok c h0 h1 he e0 hd hc
      · by_cases h13 : c = 13
        · exact step_0f hB hr hok c h0 h1 he e0 hd hc h13
        · by_cases h59 : c = 59
          · by_cases hx : d.ext < 1
            · exact step_0g hB hr hok c h0 h1 he e0 hd hc h59 hx
            · exact step_0h hB hr hok c h0 h1 he e0 hd hc h59 hx
          · exact step_0e hB hr hok c h0 h1 he e0 hd hc h59 h13
  by_cases e1 : d.place = 1
  · by_cases hc : c = 13
    · exact step_1a hB hr hok c h0 h1 he e1 hc
    · cases ht : textB c with
      | false => exact step_1b hB hr hok c h0 h1 he e1 hc ht
      | true =>
        by_cases hx : d.count ≥ d.ext
        · exact step_1c hB hr hok c h0 h1 he e1 hc ht hx
        · exact step_1d hB hr hok c h0 h1 he e1 hc ht hx
  by_cases e2 : d.place = 2
  · by_cases hc : c = 10
    · by_cases hn : d.n = 0
      · exact step_2c hB hr hok c h0 h1 he e2 hc hn
      · exact step_2b hB hr hok c h0 h1 he e2 hc hn
    · exact step_2a hB hr hok c h0 h1 he e2 hc
  by_cases e3 : d.place = 3
  · by_cases hz : d.n - 1 = 0
    · exact step_3a hB hr hok c h0 h1 he e3 hl hz
    · exact step_3b hB hr hok c h0 h1 he e3 hl hz
  by_cases e4 : d.place = 4
  · by_cases hc : c = 13
    · exact step_4b hB hr hok c h0 h1 he e4 hc
    · exact step_4a hB hr hok c h0 h1 he e4 hc
  by_cases e5 : d.place = 5
  · by_cases hc : c = 10
    · exact step_5b hB hr hok c h0 h1 he e5 hc
    · exact step_5a hB hr hok c h0 h1 he e5 hc
  by_cases e6 : d.place = 6
  · by_cases hc : c = 13
    · exact step_6a hB hr hok c h0 h1 he e6 hc
    · cases ht : tokenB c with
      | false => exact step_6b hB hr hok c h0 h1 he e6 hc ht
      | true =>
        by_cases hx : d.lines ≥ d.flds
        · exact step_6c hB hr hok c h0 h1 he e6 hc ht hx
        · by_cases hs : d.size ≥ d.byts
          · exact step_6dn hB hr hok c h0 h1 he e6 hc ht hx hs
          · exact step_6d hB hr hok c h0 h1 he e6 hc ht hx hs
  by_cases e7 : d.place = 7
  · by_cases hc : c = 58
    · by_cases hs : d.size ≥ d.byts
      · exact step_7an hB hr hok c h0 h1 he e7 hc hs
      · exact step_7a hB hr hok c h0 h1 he e7 hc hs
    · cases ht : tokenB c with
      | false => exact step_7b hB hr hok c h0 h1 he e7 hc ht
      | true =>
        by_cases hs : d.size ≥ d.byts
        · exact step_7cn hB hr hok c h0 h1 he e7 hc ht hs
        · exact step_7c hB hr hok c h0 h1 he e7 hc ht hs
  by_cases e8 : d.place = 8
  · by_cases hc : c = 13
    · by_cases hs : d.size ≥ d.byts
      · exact step_8an hB hr hok c h0 h1 he e8 hc hs
      · exact step_8a hB hr hok c h0 h1 he e8 hc hs
    · cases ht : textB c with
      | false => exact step_8b hB hr hok c h0 h1 he e8 hc ht
      | true =>
        by_cases hs : d.size ≥ d.byts
        · exact step_8cn hB hr hok c h0 h1 he e8 hc ht hs
        · exact step_8c hB hr hok c h0 h1 he e8 hc ht hs
  by_cases e9 : d.place = 9
  · by_cases hc : c = 10
    · by_cases hs : d.size ≥ d.byts
      · exact step_9n hB hr hok c h0 h1 he e9 hc hs
      · exact step_9b hB hr hok c h0 h1 he e9 hc hs
    · exact step_9a hB hr hok c h0 h1 he e9 hc
  by_cases hc : c = 10
  · exact step_10b hB hr hok c h0 h1 he (by omega) hc
  · exact step_10a hB hr hok c h0 h1 he (by omega) hc
end Go.Proofs.YtebjfgkgfgbndaaDoor

namespace Go.Proofs.YtebjfgkgfgbndaaDoor
open Go.RowKit Go.Proofs.YtebjfgkgfgbndaaDoorW.PrintWords Go.Proofs.YtebjfgkgfgbndaaDoorW.PrintLast Go.Proofs.YtebjfgkgfgbndaaDoorW.PrintMore
open PBodyScans
set_option linter.unusedVariables false
set_option linter.unusedSimpArgs false

theorem setR {w : World} {B : Nat} {S : Nat → Prop} {d : Dc} {data : List Int} {vd vf : Value} (h : SRows w B S d data vd vf) {g t : Nat} {cs : Array Value} (hg : w.heap[g]? = some (.cells cs t (0, 0))) (h5 : 5 ≠ t) (h53 : 53 ≠ t) (j : Nat) (u : Value) :
    SRows (w.setCell ⟨g, j, none⟩ u) B S d data vd vf :=
  ⟨Kd.R_set h.1 hg (by intro q hq; have : q = 5 := (by simpa [Kd.int, Kd.scalar] using hq); rw [this]; exact h5) j u, Kd.R_set h.2 hg (by intro q hq; have : q = 53 := (by simpa [k53, Kd.iso, Kd.pair, Kd.string, Kd.scalar] using hq); rw [this]; exact h53) j u⟩
def zzCells : Array Value := #[.int .i64 0, .int .u64 0, .int .i64 0, .int .i64 0, .int .i64 0, .string (⟨#[]⟩ : ByteArray), .slice none 0 0, .slice none 0 0, .int .i64 0, .int .i64 0]
def gCells (d : Dc) (vd vf : Value) (a e : Int) : Array Value := #[.int .i64 d.place, .int .u64 d.n, .int .i64 d.count, .int .i64 d.lines, .int .i64 d.size, .string (strOfNums d.line), vd, vf, .int .i64 a, .int .i64 e]
section
variable {w W W' : World} {g g3 g4 g5 : Nat} {S : Nat → Prop} {d d' : Dc} {data : List Int} {vd vf x0 x1 x2 x3 x4 x5 x6 x7 : Value} {a e : Int}
theorem putS (q0 : W.heap[g]? = some (.cells #[x0, x1, x2, x3, x4, x5, x6, x7] 39 (0, 0))) : ((((((((W.setCell ⟨g, 0, none⟩ (.int .i64 d.place)).setCell ⟨g, 1, none⟩ (.int .u64 d.n)).setCell ⟨g, 2, none⟩ (.int .i64 d.count)).setCell ⟨g, 3, none⟩ (.int .i64 d.lines)).setCell ⟨g, 4, none⟩ (.int .i64 d.size)).setCell ⟨g, 5, none⟩ (.string (strOfNums d.line))).setCell ⟨g, 6, none⟩ (vd)).setCell ⟨g, 7, none⟩ (vf)).heap[g]? = some (.cells (sCells d vd vf) 39 (0, 0)) := by
  have q1 := blk_put (cs' := #[.int .i64 d.place, x1, x2, x3, x4, x5, x6, x7]) q0 0 (.int .i64 d.place) rfl
  have q2 := blk_put (cs' := #[.int .i64 d.place, .int .u64 d.n, x2, x3, x4, x5, x6, x7]) q1 1 (.int .u64 d.n) rfl
  have q3 := blk_put (cs' := #[.int .i64 d.place, .int .u64 d.n, .int .i64 d.count, x3, x4, x5, x6, x7]) q2 2 (.int .i64 d.count) rfl
  have q4 := blk_put (cs' := #[.int .i64 d.place, .int .u64 d.n, .int .i64 d.count, .int .i64 d.lines, x4, x5, x6, x7]) q3 3 (.int .i64 d.lines) rfl
  have q5 := blk_put (cs' := #[.int .i64 d.place, .int .u64 d.n, .int .i64 d.count, .int .i64 d.lines, .int .i64 d.size, x5, x6, x7]) q4 4 (.int .i64 d.size) rfl
  have q6 := blk_put (cs' := #[.int .i64 d.place, .int .u64 d.n, .int .i64 d.count, .int .i64 d.lines, .int .i64 d.size, .string (strOfNums d.line), x6, x7]) q5 5 (.string (strOfNums d.line)) rfl
  have q7 := blk_put (cs' := #[.int .i64 d.place, .int .u64 d.n, .int .i64 d.count, .int .i64 d.lines, .int .i64 d.size, .string (strOfNums d.line), vd, x7]) q6 6 (vd) rfl
  have q8 := blk_put (cs' := #[.int .i64 d.place, .int .u64 d.n, .int .i64 d.count, .int .i64 d.lines, .int .i64 d.size, .string (strOfNums d.line), vd, vf]) q7 7 (vf) rfl
  exact q8
theorem putR (q0 : W.heap[g]? = some (.cells #[x0, x1, x2, x3, x4, x5, x6, x7] 39 (0, 0))) {B : Nat} {d0 : Dc} {data0 : List Int} {v0 f0 : Value} (r0 : SRows W B S d0 data0 v0 f0) : SRows ((((((((W.setCell ⟨g, 0, none⟩ (.int .i64 d.place)).setCell ⟨g, 1, none⟩ (.int .u64 d.n)).setCell ⟨g, 2, none⟩ (.int .i64 d.count)).setCell ⟨g, 3, none⟩ (.int .i64 d.lines)).setCell ⟨g, 4, none⟩ (.int .i64 d.size)).setCell ⟨g, 5, none⟩ (.string (strOfNums d.line))).setCell ⟨g, 6, none⟩ (vd)).setCell ⟨g, 7, none⟩ (vf)) B S d0 data0 v0 f0 := by
  have q1 := blk_put (cs' := #[.int .i64 d.place, x1, x2, x3, x4, x5, x6, x7]) q0 0 (.int .i64 d.place) rfl
  have q2 := blk_put (cs' := #[.int .i64 d.place, .int .u64 d.n, x2, x3, x4, x5, x6, x7]) q1 1 (.int .u64 d.n) rfl
  have q3 := blk_put (cs' := #[.int .i64 d.place, .int .u64 d.n, .int .i64 d.count, x3, x4, x5, x6, x7]) q2 2 (.int .i64 d.count) rfl
  have q4 := blk_put (cs' := #[.int .i64 d.place, .int .u64 d.n, .int .i64 d.count, .int .i64 d.lines, x4, x5, x6, x7]) q3 3 (.int .i64 d.lines) rfl
  have q5 := blk_put (cs' := #[.int .i64 d.place, .int .u64 d.n, .int .i64 d.count, .int .i64 d.lines, .int .i64 d.size, x5, x6, x7]) q4 4 (.int .i64 d.size) rfl
  have q6 := blk_put (cs' := #[.int .i64 d.place, .int .u64 d.n, .int .i64 d.count, .int .i64 d.lines, .int .i64 d.size, .string (strOfNums d.line), x6, x7]) q5 5 (.string (strOfNums d.line)) rfl
  have q7 := blk_put (cs' := #[.int .i64 d.place, .int .u64 d.n, .int .i64 d.count, .int .i64 d.lines, .int .i64 d.size, .string (strOfNums d.line), vd, x7]) q6 6 (vd) rfl
  have q8 := blk_put (cs' := #[.int .i64 d.place, .int .u64 d.n, .int .i64 d.count, .int .i64 d.lines, .int .i64 d.size, .string (strOfNums d.line), vd, vf]) q7 7 (vf) rfl
  have r1 := setR r0 q0 (by decide) (by decide) 0 (.int .i64 d.place)
  have r2 := setR r1 q1 (by decide) (by decide) 1 (.int .u64 d.n)
  have r3 := setR r2 q2 (by decide) (by decide) 2 (.int .i64 d.count)
  have r4 := setR r3 q3 (by decide) (by decide) 3 (.int .i64 d.lines)
  have r5 := setR r4 q4 (by decide) (by decide) 4 (.int .i64 d.size)
  have r6 := setR r5 q5 (by decide) (by decide) 5 (.string (strOfNums d.line))
  have r7 := setR r6 q6 (by decide) (by decide) 6 (vd)
  have r8 := setR r7 q7 (by decide) (by decide) 7 (vf)
  exact r8
theorem putB {B : Nat} {w0 : World} (m0 : Below B w0 W) (hg : B ≤ g) : Below B w0 ((((((((W.setCell ⟨g, 0, none⟩ (.int .i64 d.place)).setCell ⟨g, 1, none⟩ (.int .u64 d.n)).setCell ⟨g, 2, none⟩ (.int .i64 d.count)).setCell ⟨g, 3, none⟩ (.int .i64 d.lines)).setCell ⟨g, 4, none⟩ (.int .i64 d.size)).setCell ⟨g, 5, none⟩ (.string (strOfNums d.line))).setCell ⟨g, 6, none⟩ (vd)).setCell ⟨g, 7, none⟩ (vf)) := by
  have m1 := m0.setCell (p := ⟨g, 0, none⟩) hg (.int .i64 d.place)
  have m2 := m1.setCell (p := ⟨g, 1, none⟩) hg (.int .u64 d.n)
  have m3 := m2.setCell (p := ⟨g, 2, none⟩) hg (.int .i64 d.count)
  have m4 := m3.setCell (p := ⟨g, 3, none⟩) hg (.int .i64 d.lines)
  have m5 := m4.setCell (p := ⟨g, 4, none⟩) hg (.int .i64 d.size)
  have m6 := m5.setCell (p := ⟨g, 5, none⟩) hg (.string (strOfNums d.line))
  have m7 := m6.setCell (p := ⟨g, 6, none⟩) hg (vd)
  have m8 := m7.setCell (p := ⟨g, 7, none⟩) hg (vf)
  exact m8
theorem putF {h t : Nat} {cs : Array Value} (f0 : W.heap[h]? = some (.cells cs t (0, 0))) (hne : h ≠ g) : ((((((((W.setCell ⟨g, 0, none⟩ (.int .i64 d.place)).setCell ⟨g, 1, none⟩ (.int .u64 d.n)).setCell ⟨g, 2, none⟩ (.int .i64 d.count)).setCell ⟨g, 3, none⟩ (.int .i64 d.lines)).setCell ⟨g, 4, none⟩ (.int .i64 d.size)).setCell ⟨g, 5, none⟩ (.string (strOfNums d.line))).setCell ⟨g, 6, none⟩ (vd)).setCell ⟨g, 7, none⟩ (vf)).heap[h]? = some (.cells cs t (0, 0)) := by
  have f1 := blk_far (p := ⟨g, 0, none⟩) f0 hne (.int .i64 d.place)
  have f2 := blk_far (p := ⟨g, 1, none⟩) f1 hne (.int .u64 d.n)
  have f3 := blk_far (p := ⟨g, 2, none⟩) f2 hne (.int .i64 d.count)
  have f4 := blk_far (p := ⟨g, 3, none⟩) f3 hne (.int .i64 d.lines)
  have f5 := blk_far (p := ⟨g, 4, none⟩) f4 hne (.int .i64 d.size)
  have f6 := blk_far (p := ⟨g, 5, none⟩) f5 hne (.string (strOfNums d.line))
  have f7 := blk_far (p := ⟨g, 6, none⟩) f6 hne (vd)
  have f8 := blk_far (p := ⟨g, 7, none⟩) f7 hne (vf)
  exact f8
theorem putGot (q0 : W.heap[g4]? = some (.cells zzCells 41 (0, 0))) (r0 : SRows W w.heap.size (fun k => w.heap.size ≤ k) d data vd vf) (m0 : Below w.heap.size w W) (hg : w.heap.size ≤ g4) :
    ((((((((((W.setCell ⟨g4, 0, none⟩ (.int .i64 d.place)).setCell ⟨g4, 1, none⟩ (.int .u64 d.n)).setCell ⟨g4, 2, none⟩ (.int .i64 d.count)).setCell ⟨g4, 3, none⟩ (.int .i64 d.lines)).setCell ⟨g4, 4, none⟩ (.int .i64 d.size)).setCell ⟨g4, 5, none⟩ (.string (strOfNums d.line))).setCell ⟨g4, 6, none⟩ (vd)).setCell ⟨g4, 7, none⟩ (vf)).setCell ⟨g4, 8, none⟩ (.int .i64 a)).setCell ⟨g4, 9, none⟩ (.int .i64 e)).heap[g4]? = some (.cells (gCells d vd vf a e) 41 (0, 0)) ∧ SRows ((((((((((W.setCell ⟨g4, 0, none⟩ (.int .i64 d.place)).setCell ⟨g4, 1, none⟩ (.int .u64 d.n)).setCell ⟨g4, 2, none⟩ (.int .i64 d.count)).setCell ⟨g4, 3, none⟩ (.int .i64 d.lines)).setCell ⟨g4, 4, none⟩ (.int .i64 d.size)).setCell ⟨g4, 5, none⟩ (.string (strOfNums d.line))).setCell ⟨g4, 6, none⟩ (vd)).setCell ⟨g4, 7, none⟩ (vf)).setCell ⟨g4, 8, none⟩ (.int .i64 a)).setCell ⟨g4, 9, none⟩ (.int .i64 e)) w.heap.size (fun k => w.heap.size ≤ k) d data vd vf ∧ Below w.heap.size w ((((((((((W.setCell ⟨g4, 0, none⟩ (.int .i64 d.place)).setCell ⟨g4, 1, none⟩ (.int .u64 d.n)).setCell ⟨g4, 2, none⟩ (.int .i64 d.count)).setCell ⟨g4, 3, none⟩ (.int .i64 d.lines)).setCell ⟨g4, 4, none⟩ (.int .i64 d.size)).setCell ⟨g4, 5, none⟩ (.string (strOfNums d.line))).setCell ⟨g4, 6, none⟩ (vd)).setCell ⟨g4, 7, none⟩ (vf)).setCell ⟨g4, 8, none⟩ (.int .i64 a)).setCell ⟨g4, 9, none⟩ (.int .i64 e)) := by
  have q1 := blk_put (cs' := #[.int .i64 d.place, .int .u64 0, .int .i64 0, .int .i64 0, .int .i64 0, .string (⟨#[]⟩ : ByteArray), .slice none 0 0, .slice none 0 0, .int .i64 0, .int .i64 0]) q0 0 (.int .i64 d.place) rfl
  have q2 := blk_put (cs' := #[.int .i64 d.place, .int .u64 d.n, .int .i64 0, .int .i64 0, .int .i64 0, .string (⟨#[]⟩ : ByteArray), .slice none 0 0, .slice none 0 0, .int .i64 0, .int .i64 0]) q1 1 (.int .u64 d.n) rfl
  have q3 := blk_put (cs' := #[.int .i64 d.place, .int .u64 d.n, .int .i64 d.count, .int .i64 0, .int .i64 0, .string (⟨#[]⟩ : ByteArray), .slice none 0 0, .slice none 0 0, .int .i64 0, .int .i64 0]) q2 2 (.int .i64 d.count) rfl
  have q4 := blk_put (cs' := #[.int .i64 d.place, .int .u64 d.n, .int .i64 d.count, .int .i64 d.lines, .int .i64 0, .string (⟨#[]⟩ : ByteArray), .slice none 0 0, .slice none 0 0, .int .i64 0, .int .i64 0]) q3 3 (.int .i64 d.lines) rfl
  have q5 := blk_put (cs' := #[.int .i64 d.place, .int .u64 d.n, .int .i64 d.count, .int .i64 d.lines, .int .i64 d.size, .string (⟨#[]⟩ : ByteArray), .slice none 0 0, .slice none 0 0, .int .i64 0, .int .i64 0]) q4 4 (.int .i64 d.size) rfl
  have q6 := blk_put (cs' := #[.int .i64 d.place, .int .u64 d.n, .int .i64 d.count, .int .i64 d.lines, .int .i64 d.size, .string (strOfNums d.line), .slice none 0 0, .slice none 0 0, .int .i64 0, .int .i64 0]) q5 5 (.string (strOfNums d.line)) rfl
  have q7 := blk_put (cs' := #[.int .i64 d.place, .int .u64 d.n, .int .i64 d.count, .int .i64 d.lines, .int .i64 d.size, .string (strOfNums d.line), vd, .slice none 0 0, .int .i64 0, .int .i64 0]) q6 6 (vd) rfl
  have q8 := blk_put (cs' := #[.int .i64 d.place, .int .u64 d.n, .int .i64 d.count, .int .i64 d.lines, .int .i64 d.size, .string (strOfNums d.line), vd, vf, .int .i64 0, .int .i64 0]) q7 7 (vf) rfl
  have q9 := blk_put (cs' := #[.int .i64 d.place, .int .u64 d.n, .int .i64 d.count, .int .i64 d.lines, .int .i64 d.size, .string (strOfNums d.line), vd, vf, .int .i64 a, .int .i64 0]) q8 8 (.int .i64 a) rfl
  have q10 := blk_put (cs' := #[.int .i64 d.place, .int .u64 d.n, .int .i64 d.count, .int .i64 d.lines, .int .i64 d.size, .string (strOfNums d.line), vd, vf, .int .i64 a, .int .i64 e]) q9 9 (.int .i64 e) rfl
  have r1 := setR r0 q0 (by decide) (by decide) 0 (.int .i64 d.place)
  have r2 := setR r1 q1 (by decide) (by decide) 1 (.int .u64 d.n)
  have r3 := setR r2 q2 (by decide) (by decide) 2 (.int .i64 d.count)
  have r4 := setR r3 q3 (by decide) (by decide) 3 (.int .i64 d.lines)
  have r5 := setR r4 q4 (by decide) (by decide) 4 (.int .i64 d.size)
  have r6 := setR r5 q5 (by decide) (by decide) 5 (.string (strOfNums d.line))
  have r7 := setR r6 q6 (by decide) (by decide) 6 (vd)
  have r8 := setR r7 q7 (by decide) (by decide) 7 (vf)
  have r9 := setR r8 q8 (by decide) (by decide) 8 (.int .i64 a)
  have r10 := setR r9 q9 (by decide) (by decide) 9 (.int .i64 e)
  have m1 := m0.setCell (p := ⟨g4, 0, none⟩) hg (.int .i64 d.place)
  have m2 := m1.setCell (p := ⟨g4, 1, none⟩) hg (.int .u64 d.n)
  have m3 := m2.setCell (p := ⟨g4, 2, none⟩) hg (.int .i64 d.count)
  have m4 := m3.setCell (p := ⟨g4, 3, none⟩) hg (.int .i64 d.lines)
  have m5 := m4.setCell (p := ⟨g4, 4, none⟩) hg (.int .i64 d.size)
  have m6 := m5.setCell (p := ⟨g4, 5, none⟩) hg (.string (strOfNums d.line))
  have m7 := m6.setCell (p := ⟨g4, 6, none⟩) hg (vd)
  have m8 := m7.setCell (p := ⟨g4, 7, none⟩) hg (vf)
  have m9 := m8.setCell (p := ⟨g4, 8, none⟩) hg (.int .i64 a)
  have m10 := m9.setCell (p := ⟨g4, 9, none⟩) hg (.int .i64 e)
  exact ⟨q10, r10, m10⟩
end

/-- Midway in Scan: g3 holds the limits, g4 what is handed back, g5 the state. -/
structure CMid (w : World) (g3 g4 g5 : Nat) (W : World) (d : Dc) (data : List Int) (vd vf : Value) : Prop where
  l : W.heap[g3]? = some (.cells (lCells d) 23 (0, 0))
  r : W.heap[g4]? = some (.cells zzCells 41 (0, 0))
  s : W.heap[g5]? = some (.cells (sCells d vd vf) 39 (0, 0))
  rows : SRows W w.heap.size (fun k => w.heap.size ≤ k) d data vd vf
  below : Below w.heap.size w W
  g4w : w.heap.size ≤ g4
  g5w : w.heap.size ≤ g5
/-- The blocks that a call of Step may turn. -/
def SN (w : World) (g3 g4 g5 N : Nat) : Nat → Prop := fun k => w.heap.size ≤ k ∧ k ≠ g3 ∧ k ≠ g4 ∧ k ≠ g5 ∧ k < N
section
variable {w W W' : World} {g3 g4 g5 : Nat} {d d' : Dc} {data data' : List Int} {vd vf vd' vf' : Value}
theorem CMid.step (h : CMid w g3 g4 g5 W d data vd vf) (hb : Below W.heap.size W W') : CMid w g3 g4 g5 W' d data vd vf :=
  ⟨blk_below h.l hb, blk_below h.r hb, blk_below h.s hb, h.rows.below hb, below_step h.below hb, h.g4w, h.g5w⟩
theorem CMid.gets (h : CMid w g3 g4 g5 W d data vd vf) : W.cell? ⟨g5, 0, none⟩ = some (.int .i64 d.place) ∧ W.cell? ⟨g5, 1, none⟩ = some (.int .u64 d.n) ∧ W.cell? ⟨g5, 2, none⟩ = some (.int .i64 d.count) ∧ W.cell? ⟨g5, 3, none⟩ = some (.int .i64 d.lines) ∧
    W.cell? ⟨g5, 4, none⟩ = some (.int .i64 d.size) ∧ W.cell? ⟨g5, 5, none⟩ = some (.string (strOfNums d.line)) ∧ W.cell? ⟨g5, 6, none⟩ = some vd ∧ W.cell? ⟨g5, 7, none⟩ = some vf :=
  ⟨blk_cell h.s 0, blk_cell h.s 1, blk_cell h.s 2, blk_cell h.s 3, blk_cell h.s 4, blk_cell h.s 5, blk_cell h.s 6, blk_cell h.s 7⟩
theorem CMid.getl (h : CMid w g3 g4 g5 W d data vd vf) : W.cell? ⟨g3, 0, none⟩ = some (.int .i64 d.ext) ∧ W.cell? ⟨g3, 1, none⟩ = some (.int .i64 d.flds) ∧ W.cell? ⟨g3, 2, none⟩ = some (.int .i64 d.byts) :=
  ⟨blk_cell h.l 0, blk_cell h.l 1, blk_cell h.l 2⟩
theorem CMid.n34 (h : CMid w g3 g4 g5 W d data vd vf) : g3 ≠ g4 := blk_ne h.l h.r (by decide)
theorem CMid.n35 (h : CMid w g3 g4 g5 W d data vd vf) : g3 ≠ g5 := blk_ne h.l h.s (by decide)
theorem CMid.n45 (h : CMid w g3 g4 g5 W d data vd vf) : g4 ≠ g5 := blk_ne h.r h.s (by decide)
theorem CMid.rowsN (h : CMid w g3 g4 g5 W d data vd vf) : SRows W w.heap.size (SN w g3 g4 g5 W.heap.size) d data vd vf := by
  have a1 := Kd.R_types (Kd.R_types (Kd.R_types h.rows.1 h.l (by simp [Kd.int, Kd.scalar])) h.r (by simp [Kd.int, Kd.scalar])) h.s (by simp [Kd.int, Kd.scalar])
  have a2 := Kd.R_types (Kd.R_types (Kd.R_types h.rows.2 h.l (by simp [k53, Kd.iso, Kd.pair, Kd.string, Kd.scalar])) h.r (by simp [k53, Kd.iso, Kd.pair, Kd.string, Kd.scalar])) h.s (by simp [k53, Kd.iso, Kd.pair, Kd.string, Kd.scalar])
  exact ⟨Kd.R_mono (Kd.R_bound a1) (fun k hk => ⟨hk.1.1.1.1, hk.1.1.1.2, hk.1.1.2, hk.1.2, hk.2.2.1⟩), Kd.R_mono (Kd.R_bound a2) (fun k hk => ⟨hk.1.1.1.1, hk.1.1.1.2, hk.1.1.2, hk.1.2, hk.2.2.1⟩)⟩
/-- Behind a call of Step that told no error: the new state in hand, the old one still in its box. -/
structure CNew (w : World) (g3 g4 g5 : Nat) (W : World) (cs : Array Value) (d : Dc) (data : List Int) (vd vf : Value) : Prop where
  l : W.heap[g3]? = some (.cells (lCells d) 23 (0, 0))
  r : W.heap[g4]? = some (.cells zzCells 41 (0, 0))
  s : W.heap[g5]? = some (.cells cs 39 (0, 0))
  rows : SRows W w.heap.size (fun k => w.heap.size ≤ k) d data vd vf
  below : Below w.heap.size w W
  g4w : w.heap.size ≤ g4
  g5w : w.heap.size ≤ g5
theorem CMid.called (h : CMid w g3 g4 g5 W d data vd vf) {N : Nat} (hl : lCells d' = lCells d) (hr : SRows W' w.heap.size (fun k => SN w g3 g4 g5 N k ∨ W.heap.size ≤ k) d' data' vd' vf') (hb : Below w.heap.size w W') (hk : Kept W W' (SN w g3 g4 g5 N)) :
    CNew w g3 g4 g5 W' (sCells d vd vf) d' data' vd' vf' := by
  have hz := h.below.size
  exact ⟨by rw [hl]; exact (hk.2 g3 (blk_lt h.l) (fun e => e.2.1 rfl)).trans h.l, (hk.2 g4 (blk_lt h.r) (fun e => e.2.2.1 rfl)).trans h.r, (hk.2 g5 (blk_lt h.s) (fun e => e.2.2.2.1 rfl)).trans h.s,
    hr.mono (fun k hk => hk.elim (fun e => e.1) (fun e => Nat.le_trans hz e)), hb, h.g4w, h.g5w⟩
theorem CNew.step {cs : Array Value} (h : CNew w g3 g4 g5 W cs d data vd vf) (hb : Below W.heap.size W W') : CNew w g3 g4 g5 W' cs d data vd vf :=
  ⟨blk_below h.l hb, blk_below h.r hb, blk_below h.s hb, h.rows.below hb, below_step h.below hb, h.g4w, h.g5w⟩
end
end Go.Proofs.YtebjfgkgfgbndaaDoor
