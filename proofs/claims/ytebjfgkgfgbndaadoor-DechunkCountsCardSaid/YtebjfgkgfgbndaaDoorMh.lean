/- Step at the places 1, 2, 4 to 10: contracts (walks) and plain laws over this seat's translation. -/
import Derived.Test.YtebjfgkgfgbndaaDoorMg
namespace Go.Proofs.YtebjfgkgfgbndaaDoor
open Go.RowKit Go.Proofs.YtebjfgkgfgbndaaDoorW.PrintWords Go.Proofs.YtebjfgkgfgbndaaDoorW.PrintLast Go.Proofs.YtebjfgkgfgbndaaDoorW.PrintMore
open PBodyScans
set_option linter.unusedVariables false
set_option linter.unusedSimpArgs false

theorem placesB {d : Dc} {p : Int} (h : d.place = p) : (d.place == 0) = (p == 0) ∧ (d.place == 1) = (p == 1) ∧ (d.place == 2) = (p == 2) ∧ (d.place == 3) = (p == 3) ∧ (d.place == 4) = (p == 4) ∧ (d.place == 5) = (p == 5) ∧ (d.place == 6) = (p == 6) ∧ (d.place == 7) = (p == 7) ∧ (d.place == 8) = (p == 8) ∧ (d.place == 9) = (p == 9) ∧ (d.place == 10) = (p == 10) := by
  subst h
  exact ⟨rfl, rfl, rfl, rfl, rfl, rfl, rfl, rfl, rfl, rfl, rfl⟩
theorem rangesB {d : Dc} (h : DcOk d) : 0 ≤ d.count ∧ d.count ≤ 65536 ∧ 0 ≤ d.lines ∧ d.lines ≤ 65536 ∧ 0 ≤ d.n ∧ d.n ≤ 4611686018427387903 := ⟨h.count0, h.count1, h.lines0, h.lines1, h.n0, h.n1⟩
theorem bput_no {d D : Dc} {c x : Int} (he : d.e = 0) (h11 : d.place ≠ 11) (h3 : d.place ≠ 3) (h : dStep d c = (D, x)) (hx : x ≠ 0) : (bput d c).1.e = x := by
  unfold bput
  rw [if_pos he, if_pos h11, if_neg h3, h, if_neg hx]
theorem bput_ok {d D : Dc} {c : Int} (he : d.e = 0) (h11 : d.place ≠ 11) (h3 : d.place ≠ 3) (h : dStep d c = (D, 0)) : bput d c = ({ D with e := 0 }, 1, []) := by
  unfold bput
  rw [if_pos he, if_pos h11, if_neg h3, h, if_pos rfl]
/-- What a line's byte comes to, in the decoder's words. -/
def LB (d d2 : Dc) (c : Int) : Prop := (bput d c).1.e = (rLine d2 c).2 ∧ ((rLine d2 c).2 = 0 → { (rLine d2 c).1 with e := 0 } = (bput d c).1 ∧ (bput d c).2.2 = [])
theorem line_bput {d d2 : Dc} {c : Int} (he : d.e = 0) (h11 : d.place ≠ 11) (h3 : d.place ≠ 3) (h : (dStep d c).2 = (rLine d2 c).2) (h' : (rLine d2 c).2 = 0 → (dStep d c).1 = (rLine d2 c).1) : LB d d2 c := by
  unfold LB bput
  rw [if_pos he, if_pos h11, if_neg h3, h]
  by_cases hr : (rLine d2 c).2 = 0
  · rw [if_pos hr, h' hr]
    exact ⟨hr.symm, fun _ => ⟨rfl, rfl⟩⟩
  · rw [if_neg hr]
    exact ⟨rfl, fun e => absurd e hr⟩
theorem DcOk.place {d : Dc} (h : DcOk d) (p : Int) : DcOk { d with place := p } := by
  obtain ⟨a1, a2, a3, a4, a5, a6, a7, a8, a9, a10, a11, a12, a13, a14, a15, a16⟩ := h
  exact ⟨a1, a2, a3, a4, a5, a6, a7, a8, a9, a10, a11, a12, a13, a14, a15, a16⟩
theorem DcOk.first {d : Dc} (h : DcOk d) (hl : d.lines < d.flds) : DcOk { d with lines := d.lines + 1, place := 7 } := by
  obtain ⟨a1, a2, a3, a4, a5, a6, a7, a8, a9, a10, a11, a12, a13, a14, a15, a16⟩ := h
  exact ⟨a1, a2, a3, a4, a5, a6, a7, a8, a9, a10, by show 0 ≤ d.lines + 1; omega, by show d.lines + 1 ≤ 65536; omega, a13, a14, a15, by show (d.fields.length : Int) ≤ d.lines + 1; omega⟩

set_option maxHeartbeats 4000000 in
set_option maxRecDepth 100000 in
theorem step_1a {w0 w : World} {S : Nat → Prop} {d : Dc} {data : List Int} {vd vf : Value} (hB : Below w0.heap.size w0 w) (hr : SRows w w0.heap.size S d data vd vf) (hok : DInv d) (c : Int) (h0 : 0 ≤ c) (h1 : c ≤ 255) (he : d.e = 0) (hp : d.place = 1) (hc : c = 13) :
    Calls Tryd.prog 57 #[.agg (sCells d vd vf), .int .u8 c, .agg (lCells d)] w (SPost w0 w S d data c) := by
  obtain ⟨b0, b1, b2, b3, b4, b5, b6, b7, b8, b9, b10⟩ := placesB hp
  obtain ⟨o1, o2, o3, o4, o5, o6⟩ := rangesB hok.ok
  have HE : Aside0 (bput d c = ({ { d with place := 2 } with e := 0 }, 1, [])) := ⟨bput_ok he (by omega) (by omega) (by simp [dStep, hp, dExt, hc, dTo])⟩
  have bc : (c == 13) = true := by exact beq_iff_eq.mpr (by assumption)
  obtain ⟨A6, c6, rfl⟩ := Kd.R_slice hr.data
  obtain ⟨A7, c7, rfl⟩ := Kd.R_slice hr.fields
  have H := Aside0.mk (And.intro hB hr)
  unfold sCells lCells
  clear hB hr hok h0 h1 he hp hc
  go_enter Tryd.func57, Tryd.ntmps57
  go_wp2_with (first
    | ((with_reducible refine gate_dst (N := 3) rfl ?_); refine box_event ?hg (N := 3) ?hd (cs := sCells d (.slice A6 data.length c6) (.slice A7 d.fields.length c7)) (t := 39) ?hr ?_; (case hd => rfl); (case hg => rfl); (case hr => first | (go_simp; done) | (go_simp; rfl)); intro g1 e1 w1 h1 k1)
    | ((with_reducible refine gate_dst (N := 5) rfl ?_); refine box_event ?hg (N := 5) ?hd (cs := lCells d) (t := 23) ?hr ?_; (case hd => rfl); (case hg => rfl); (case hr => first | (go_simp; done) | (go_simp; rfl)); intro g2 e2 w2 h2 k2)
    | ((with_reducible refine gate_dst (N := 6) rfl ?_); refine box_event ?hg (N := 6) ?hd (cs := zCells) (t := 39) ?hr ?_; (case hd => rfl); (case hg => rfl); (case hr => first | (go_simp; done) | (go_simp; rfl)); intro g3 e3 w3 h3 k3
       have M := Aside0.mk (SMid.start H.out.1 H.out.2 e1 h1 k1 e2 h2 k2 e3 h3 k3)
       have HW := Aside0.mk (below_step (below_step k1 k2) k3)
       obtain ⟨⟨a0_0, a1_0, a2_0, a3_0, a4_0, a5_0, a6_0, a7_0⟩, ⟨l0_0, l1_0, l2_0⟩, ⟨z0_0, z1_0, z2_0, z3_0, z4_0, z5_0, z6_0, z7_0⟩, f1_0, f3_0, n13, n12, n23⟩ := M.out.all
       clear h1 k1 h2 k2 h3 k3 e1 e2 e3))
  obtain ⟨q1, q2, q3, q4⟩ := (M.out.set (d' := { d with place := 2 }) 0 (.int .i64 2) rfl rfl rfl).leaf
  refine bodyPost_ret (results_ct rfl _ _ g3 39 _ (0, 0) _ rfl q1 Tryd.underlying39 rfl (by kernel_rfl)) rfl ?_
  refine ⟨{ d with place := 2, e := 0 }, data, _, _, ?_, ⟨q2.1, q2.2⟩, q3, q4, fun _ => ?_, fun h => absurd (by rw [HE.out]) h⟩
  · rw [HE.out]; rfl
  · rw [HE.out]; exact ⟨rfl, (List.append_nil _).symm⟩

set_option maxHeartbeats 4000000 in
set_option maxRecDepth 100000 in
theorem step_1b {w0 w : World} {S : Nat → Prop} {d : Dc} {data : List Int} {vd vf : Value} (hB : Below w0.heap.size w0 w) (hr : SRows w w0.heap.size S d data vd vf) (hok : DInv d) (c : Int) (h0 : 0 ≤ c) (h1 : c ≤ 255) (he : d.e = 0) (hp : d.place = 1) (hc : c ≠ 13) (ht : textB c = false) :
    Calls Tryd.prog 57 #[.agg (sCells d vd vf), .int .u8 c, .agg (lCells d)] w (SPost w0 w S d data c) := by
  obtain ⟨b0, b1, b2, b3, b4, b5, b6, b7, b8, b9, b10⟩ := placesB hp
  obtain ⟨o1, o2, o3, o4, o5, o6⟩ := rangesB hok.ok
  have HE : Aside0 ((bput d c).1.e = 2) := ⟨bput_no he (by omega) (by omega) (D := d) (by simp [dStep, hp, dExt, hc, ht]) (by decide)⟩
  have bc : (c == 13) = false := by exact beq_eq_false_iff_ne.mpr (by assumption)
  have HT : Aside0 (catchpitref02_Byte.f c = some false) := ⟨by rw [byte_f c h0 h1, ht]⟩
  obtain ⟨A6, c6, rfl⟩ := Kd.R_slice hr.data
  obtain ⟨A7, c7, rfl⟩ := Kd.R_slice hr.fields
  have H := Aside0.mk (And.intro hB hr)
  unfold sCells lCells
  clear hB hr hok h0 h1 he hp hc ht
  go_enter Tryd.func57, Tryd.ntmps57
  go_wp2_with (first
    | ((with_reducible refine gate_dst (N := 3) rfl ?_); refine box_event ?hg (N := 3) ?hd (cs := sCells d (.slice A6 data.length c6) (.slice A7 d.fields.length c7)) (t := 39) ?hr ?_; (case hd => rfl); (case hg => rfl); (case hr => first | (go_simp; done) | (go_simp; rfl)); intro g1 e1 w1 h1 k1)
    | ((with_reducible refine gate_dst (N := 5) rfl ?_); refine box_event ?hg (N := 5) ?hd (cs := lCells d) (t := 23) ?hr ?_; (case hd => rfl); (case hg => rfl); (case hr => first | (go_simp; done) | (go_simp; rfl)); intro g2 e2 w2 h2 k2)
    | ((with_reducible refine gate_dst (N := 6) rfl ?_); refine box_event ?hg (N := 6) ?hd (cs := zCells) (t := 39) ?hr ?_; (case hd => rfl); (case hg => rfl); (case hr => first | (go_simp; done) | (go_simp; rfl)); intro g3 e3 w3 h3 k3
       have M := Aside0.mk (SMid.start H.out.1 H.out.2 e1 h1 k1 e2 h2 k2 e3 h3 k3)
       have HW := Aside0.mk (below_step (below_step k1 k2) k3)
       obtain ⟨⟨a0_0, a1_0, a2_0, a3_0, a4_0, a5_0, a6_0, a7_0⟩, ⟨l0_0, l1_0, l2_0⟩, ⟨z0_0, z1_0, z2_0, z3_0, z4_0, z5_0, z6_0, z7_0⟩, f1_0, f3_0, n13, n12, n23⟩ := M.out.all
       clear h1 k1 h2 k2 h3 k3 e1 e2 e3))
  refine (catchpitref02_Byte.calls c false _ HT.out).mono ?_
  rintro e w4 ⟨rfl, hd⟩
  have M4 := Aside0.mk (M.out.step (Drawn0.below hd))
  have HW4 := Aside0.mk (below_step HW.out (Drawn0.below hd))
  clear a0_0 a1_0 a2_0 a3_0 a4_0 a5_0 a6_0 a7_0 l0_0 l1_0 l2_0 z0_0 z1_0 z2_0 z3_0 z4_0 z5_0 z6_0 z7_0 f1_0 f3_0
  obtain ⟨⟨a0_4, a1_4, a2_4, a3_4, a4_4, a5_4, a6_4, a7_4⟩, ⟨l0_4, l1_4, l2_4⟩, ⟨z0_4, z1_4, z2_4, z3_4, z4_4, z5_4, z6_4, z7_4⟩, f1_4, f3_4, -, -, -⟩ := M4.out.all
  clear hd
  go_wp2_with fail
  obtain ⟨q1, q2, q3, q4⟩ := M4.out.leaf
  refine bodyPost_ret (results_ct rfl _ _ g3 39 _ (0, 0) _ rfl q1 Tryd.underlying39 rfl (by kernel_rfl)) rfl ?_
  exact ⟨_, _, _, _, by rw [HE.out]; rfl, q2, q3, q4, fun h => absurd (HE.out.symm.trans h) (by decide), fun _ => (leafB (d := d) (vd := .slice A6 data.length c6) (vf := .slice A7 d.fields.length c7) M4.out.r HW4.out M4.out.g3w).2⟩

set_option maxHeartbeats 4000000 in
set_option maxRecDepth 100000 in
theorem step_1c {w0 w : World} {S : Nat → Prop} {d : Dc} {data : List Int} {vd vf : Value} (hB : Below w0.heap.size w0 w) (hr : SRows w w0.heap.size S d data vd vf) (hok : DInv d) (c : Int) (h0 : 0 ≤ c) (h1 : c ≤ 255) (he : d.e = 0) (hp : d.place = 1) (hc : c ≠ 13) (ht : textB c = true) (hx : d.count ≥ d.ext) :
    Calls Tryd.prog 57 #[.agg (sCells d vd vf), .int .u8 c, .agg (lCells d)] w (SPost w0 w S d data c) := by
  obtain ⟨b0, b1, b2, b3, b4, b5, b6, b7, b8, b9, b10⟩ := placesB hp
  obtain ⟨o1, o2, o3, o4, o5, o6⟩ := rangesB hok.ok
  have HE : Aside0 ((bput d c).1.e = 5) := ⟨bput_no he (by omega) (by omega) (D := d) (by simp [dStep, hp, dExt, hc, ht, hx]) (by decide)⟩
  have bc : (c == 13) = false := by exact beq_eq_false_iff_ne.mpr (by assumption)
  have bx : decide (d.ext ≤ d.count) = true := by exact decide_eq_true (by omega)
  have HT : Aside0 (catchpitref02_Byte.f c = some true) := ⟨by rw [byte_f c h0 h1, ht]⟩
  obtain ⟨A6, c6, rfl⟩ := Kd.R_slice hr.data
  obtain ⟨A7, c7, rfl⟩ := Kd.R_slice hr.fields
  have H := Aside0.mk (And.intro hB hr)
  unfold sCells lCells
  clear hB hr hok h0 h1 he hp hc ht hx
  go_enter Tryd.func57, Tryd.ntmps57
  go_wp2_with (first
    | ((with_reducible refine gate_dst (N := 3) rfl ?_); refine box_event ?hg (N := 3) ?hd (cs := sCells d (.slice A6 data.length c6) (.slice A7 d.fields.length c7)) (t := 39) ?hr ?_; (case hd => rfl); (case hg => rfl); (case hr => first | (go_simp; done) | (go_simp; rfl)); intro g1 e1 w1 h1 k1)
    | ((with_reducible refine gate_dst (N := 5) rfl ?_); refine box_event ?hg (N := 5) ?hd (cs := lCells d) (t := 23) ?hr ?_; (case hd => rfl); (case hg => rfl); (case hr => first | (go_simp; done) | (go_simp; rfl)); intro g2 e2 w2 h2 k2)
    | ((with_reducible refine gate_dst (N := 6) rfl ?_); refine box_event ?hg (N := 6) ?hd (cs := zCells) (t := 39) ?hr ?_; (case hd => rfl); (case hg => rfl); (case hr => first | (go_simp; done) | (go_simp; rfl)); intro g3 e3 w3 h3 k3
       have M := Aside0.mk (SMid.start H.out.1 H.out.2 e1 h1 k1 e2 h2 k2 e3 h3 k3)
       have HW := Aside0.mk (below_step (below_step k1 k2) k3)
       obtain ⟨⟨a0_0, a1_0, a2_0, a3_0, a4_0, a5_0, a6_0, a7_0⟩, ⟨l0_0, l1_0, l2_0⟩, ⟨z0_0, z1_0, z2_0, z3_0, z4_0, z5_0, z6_0, z7_0⟩, f1_0, f3_0, n13, n12, n23⟩ := M.out.all
       clear h1 k1 h2 k2 h3 k3 e1 e2 e3))
  refine (catchpitref02_Byte.calls c true _ HT.out).mono ?_
  rintro e w4 ⟨rfl, hd⟩
  have M4 := Aside0.mk (M.out.step (Drawn0.below hd))
  have HW4 := Aside0.mk (below_step HW.out (Drawn0.below hd))
  clear a0_0 a1_0 a2_0 a3_0 a4_0 a5_0 a6_0 a7_0 l0_0 l1_0 l2_0 z0_0 z1_0 z2_0 z3_0 z4_0 z5_0 z6_0 z7_0 f1_0 f3_0
  obtain ⟨⟨a0_4, a1_4, a2_4, a3_4, a4_4, a5_4, a6_4, a7_4⟩, ⟨l0_4, l1_4, l2_4⟩, ⟨z0_4, z1_4, z2_4, z3_4, z4_4, z5_4, z6_4, z7_4⟩, f1_4, f3_4, -, -, -⟩ := M4.out.all
  clear hd
  go_wp2_with fail
  obtain ⟨q1, q2, q3, q4⟩ := M4.out.leaf
  refine bodyPost_ret (results_ct rfl _ _ g3 39 _ (0, 0) _ rfl q1 Tryd.underlying39 rfl (by kernel_rfl)) rfl ?_
  exact ⟨_, _, _, _, by rw [HE.out]; rfl, q2, q3, q4, fun h => absurd (HE.out.symm.trans h) (by decide), fun _ => (leafB (d := d) (vd := .slice A6 data.length c6) (vf := .slice A7 d.fields.length c7) M4.out.r HW4.out M4.out.g3w).2⟩

set_option maxHeartbeats 4000000 in
set_option maxRecDepth 100000 in
theorem step_1d {w0 w : World} {S : Nat → Prop} {d : Dc} {data : List Int} {vd vf : Value} (hB : Below w0.heap.size w0 w) (hr : SRows w w0.heap.size S d data vd vf) (hok : DInv d) (c : Int) (h0 : 0 ≤ c) (h1 : c ≤ 255) (he : d.e = 0) (hp : d.place = 1) (hc : c ≠ 13) (ht : textB c = true) (hx : ¬ d.count ≥ d.ext) :
    Calls Tryd.prog 57 #[.agg (sCells d vd vf), .int .u8 c, .agg (lCells d)] w (SPost w0 w S d data c) := by
  obtain ⟨b0, b1, b2, b3, b4, b5, b6, b7, b8, b9, b10⟩ := placesB hp
  obtain ⟨o1, o2, o3, o4, o5, o6⟩ := rangesB hok.ok
  have HE : Aside0 (bput d c = ({ { d with count := d.count + 1 } with e := 0 }, 1, [])) := ⟨bput_ok he (by omega) (by omega) (by simp [dStep, hp, dExt, hc, ht, hx])⟩
  have bc : (c == 13) = false := by exact beq_eq_false_iff_ne.mpr (by assumption)
  have bx : decide (d.ext ≤ d.count) = false := by exact decide_eq_false (by omega)
  have HT : Aside0 (catchpitref02_Byte.f c = some true) := ⟨by rw [byte_f c h0 h1, ht]⟩
  obtain ⟨A6, c6, rfl⟩ := Kd.R_slice hr.data
  obtain ⟨A7, c7, rfl⟩ := Kd.R_slice hr.fields
  have H := Aside0.mk (And.intro hB hr)
  unfold sCells lCells
  clear hB hr hok h0 h1 he hp hc ht hx
  go_enter Tryd.func57, Tryd.ntmps57
  go_wp2_with (first
    | ((with_reducible refine gate_dst (N := 3) rfl ?_); refine box_event ?hg (N := 3) ?hd (cs := sCells d (.slice A6 data.length c6) (.slice A7 d.fields.length c7)) (t := 39) ?hr ?_; (case hd => rfl); (case hg => rfl); (case hr => first | (go_simp; done) | (go_simp; rfl)); intro g1 e1 w1 h1 k1)
    | ((with_reducible refine gate_dst (N := 5) rfl ?_); refine box_event ?hg (N := 5) ?hd (cs := lCells d) (t := 23) ?hr ?_; (case hd => rfl); (case hg => rfl); (case hr => first | (go_simp; done) | (go_simp; rfl)); intro g2 e2 w2 h2 k2)
    | ((with_reducible refine gate_dst (N := 6) rfl ?_); refine box_event ?hg (N := 6) ?hd (cs := zCells) (t := 39) ?hr ?_; (case hd => rfl); (case hg => rfl); (case hr => first | (go_simp; done) | (go_simp; rfl)); intro g3 e3 w3 h3 k3
       have M := Aside0.mk (SMid.start H.out.1 H.out.2 e1 h1 k1 e2 h2 k2 e3 h3 k3)
       have HW := Aside0.mk (below_step (below_step k1 k2) k3)
       obtain ⟨⟨a0_0, a1_0, a2_0, a3_0, a4_0, a5_0, a6_0, a7_0⟩, ⟨l0_0, l1_0, l2_0⟩, ⟨z0_0, z1_0, z2_0, z3_0, z4_0, z5_0, z6_0, z7_0⟩, f1_0, f3_0, n13, n12, n23⟩ := M.out.all
       clear h1 k1 h2 k2 h3 k3 e1 e2 e3))
  refine (catchpitref02_Byte.calls c true _ HT.out).mono ?_
  rintro e w4 ⟨rfl, hd⟩
  have M4 := Aside0.mk (M.out.step (Drawn0.below hd))
  have HW4 := Aside0.mk (below_step HW.out (Drawn0.below hd))
  clear a0_0 a1_0 a2_0 a3_0 a4_0 a5_0 a6_0 a7_0 l0_0 l1_0 l2_0 z0_0 z1_0 z2_0 z3_0 z4_0 z5_0 z6_0 z7_0 f1_0 f3_0
  obtain ⟨⟨a0_4, a1_4, a2_4, a3_4, a4_4, a5_4, a6_4, a7_4⟩, ⟨l0_4, l1_4, l2_4⟩, ⟨z0_4, z1_4, z2_4, z3_4, z4_4, z5_4, z6_4, z7_4⟩, f1_4, f3_4, -, -, -⟩ := M4.out.all
  clear hd
  go_wp2_with fail
  obtain ⟨q1, q2, q3, q4⟩ := (M4.out.set (d' := { d with count := d.count + 1 }) 2 (.int .i64 (d.count + 1)) rfl rfl rfl).leaf
  refine bodyPost_ret (results_ct rfl _ _ g3 39 _ (0, 0) _ rfl q1 Tryd.underlying39 rfl (by kernel_rfl)) rfl ?_
  refine ⟨{ d with count := d.count + 1, e := 0 }, data, _, _, ?_, ⟨q2.1, q2.2⟩, q3, q4, fun _ => ?_, fun h => absurd (by rw [HE.out]) h⟩
  · rw [HE.out]; rfl
  · rw [HE.out]; exact ⟨rfl, (List.append_nil _).symm⟩

set_option maxHeartbeats 4000000 in
set_option maxRecDepth 100000 in
theorem step_2a {w0 w : World} {S : Nat → Prop} {d : Dc} {data : List Int} {vd vf : Value} (hB : Below w0.heap.size w0 w) (hr : SRows w w0.heap.size S d data vd vf) (hok : DInv d) (c : Int) (h0 : 0 ≤ c) (h1 : c ≤ 255) (he : d.e = 0) (hp : d.place = 2) (hc : c ≠ 10) :
    Calls Tryd.prog 57 #[.agg (sCells d vd vf), .int .u8 c, .agg (lCells d)] w (SPost w0 w S d data c) := by
  obtain ⟨b0, b1, b2, b3, b4, b5, b6, b7, b8, b9, b10⟩ := placesB hp
  obtain ⟨o1, o2, o3, o4, o5, o6⟩ := rangesB hok.ok
  have HE : Aside0 ((bput d c).1.e = 2) := ⟨bput_no he (by omega) (by omega) (D := d) (by by_cases hn : d.n = 0 <;> simp [dStep, hp, dBegun, dTo, hc, hn]) (by decide)⟩
  have bc : (c != 10) = true := by exact bne_iff_ne.mpr (by assumption)
  obtain ⟨A6, c6, rfl⟩ := Kd.R_slice hr.data
  obtain ⟨A7, c7, rfl⟩ := Kd.R_slice hr.fields
  have H := Aside0.mk (And.intro hB hr)
  unfold sCells lCells
  clear hB hr hok h0 h1 he hp hc
  go_enter Tryd.func57, Tryd.ntmps57
  go_wp2_with (first
    | ((with_reducible refine gate_dst (N := 3) rfl ?_); refine box_event ?hg (N := 3) ?hd (cs := sCells d (.slice A6 data.length c6) (.slice A7 d.fields.length c7)) (t := 39) ?hr ?_; (case hd => rfl); (case hg => rfl); (case hr => first | (go_simp; done) | (go_simp; rfl)); intro g1 e1 w1 h1 k1)
    | ((with_reducible refine gate_dst (N := 5) rfl ?_); refine box_event ?hg (N := 5) ?hd (cs := lCells d) (t := 23) ?hr ?_; (case hd => rfl); (case hg => rfl); (case hr => first | (go_simp; done) | (go_simp; rfl)); intro g2 e2 w2 h2 k2)
    | ((with_reducible refine gate_dst (N := 6) rfl ?_); refine box_event ?hg (N := 6) ?hd (cs := zCells) (t := 39) ?hr ?_; (case hd => rfl); (case hg => rfl); (case hr => first | (go_simp; done) | (go_simp; rfl)); intro g3 e3 w3 h3 k3
       have M := Aside0.mk (SMid.start H.out.1 H.out.2 e1 h1 k1 e2 h2 k2 e3 h3 k3)
       have HW := Aside0.mk (below_step (below_step k1 k2) k3)
       obtain ⟨⟨a0_0, a1_0, a2_0, a3_0, a4_0, a5_0, a6_0, a7_0⟩, ⟨l0_0, l1_0, l2_0⟩, ⟨z0_0, z1_0, z2_0, z3_0, z4_0, z5_0, z6_0, z7_0⟩, f1_0, f3_0, n13, n12, n23⟩ := M.out.all
       clear h1 k1 h2 k2 h3 k3 e1 e2 e3))
  obtain ⟨q1, q2, q3, q4⟩ := M.out.leaf
  refine bodyPost_ret (results_ct rfl _ _ g3 39 _ (0, 0) _ rfl q1 Tryd.underlying39 rfl (by kernel_rfl)) rfl ?_
  exact ⟨_, _, _, _, by rw [HE.out]; rfl, q2, q3, q4, fun h => absurd (HE.out.symm.trans h) (by decide), fun _ => (leafB (d := d) (vd := .slice A6 data.length c6) (vf := .slice A7 d.fields.length c7) M.out.r HW.out M.out.g3w).2⟩

set_option maxHeartbeats 4000000 in
set_option maxRecDepth 100000 in
theorem step_2b {w0 w : World} {S : Nat → Prop} {d : Dc} {data : List Int} {vd vf : Value} (hB : Below w0.heap.size w0 w) (hr : SRows w w0.heap.size S d data vd vf) (hok : DInv d) (c : Int) (h0 : 0 ≤ c) (h1 : c ≤ 255) (he : d.e = 0) (hp : d.place = 2) (hc : c = 10) (hn : ¬ d.n = 0) :
    Calls Tryd.prog 57 #[.agg (sCells d vd vf), .int .u8 c, .agg (lCells d)] w (SPost w0 w S d data c) := by
  obtain ⟨b0, b1, b2, b3, b4, b5, b6, b7, b8, b9, b10⟩ := placesB hp
  obtain ⟨o1, o2, o3, o4, o5, o6⟩ := rangesB hok.ok
  have HE : Aside0 (bput d c = ({ { d with place := 3 } with e := 0 }, 1, [])) := ⟨bput_ok he (by omega) (by omega) (by simp [dStep, hp, dBegun, dTo, hc, hn])⟩
  have bc : (c != 10) = false := by exact bne_eq_false_iff_eq.mpr (by assumption)
  have bn : decide (0 < d.n) = true := decide_eq_true (by omega)
  obtain ⟨A6, c6, rfl⟩ := Kd.R_slice hr.data
  obtain ⟨A7, c7, rfl⟩ := Kd.R_slice hr.fields
  have H := Aside0.mk (And.intro hB hr)
  unfold sCells lCells
  clear hB hr hok h0 h1 he hp hc hn
  go_enter Tryd.func57, Tryd.ntmps57
  go_wp2_with (first
    | ((with_reducible refine gate_dst (N := 3) rfl ?_); refine box_event ?hg (N := 3) ?hd (cs := sCells d (.slice A6 data.length c6) (.slice A7 d.fields.length c7)) (t := 39) ?hr ?_; (case hd => rfl); (case hg => rfl); (case hr => first | (go_simp; done) | (go_simp; rfl)); intro g1 e1 w1 h1 k1)
    | ((with_reducible refine gate_dst (N := 5) rfl ?_); refine box_event ?hg (N := 5) ?hd (cs := lCells d) (t := 23) ?hr ?_; (case hd => rfl); (case hg => rfl); (case hr => first | (go_simp; done) | (go_simp; rfl)); intro g2 e2 w2 h2 k2)
    | ((with_reducible refine gate_dst (N := 6) rfl ?_); refine box_event ?hg (N := 6) ?hd (cs := zCells) (t := 39) ?hr ?_; (case hd => rfl); (case hg => rfl); (case hr => first | (go_simp; done) | (go_simp; rfl)); intro g3 e3 w3 h3 k3
       have M := Aside0.mk (SMid.start H.out.1 H.out.2 e1 h1 k1 e2 h2 k2 e3 h3 k3)
       have HW := Aside0.mk (below_step (below_step k1 k2) k3)
       obtain ⟨⟨a0_0, a1_0, a2_0, a3_0, a4_0, a5_0, a6_0, a7_0⟩, ⟨l0_0, l1_0, l2_0⟩, ⟨z0_0, z1_0, z2_0, z3_0, z4_0, z5_0, z6_0, z7_0⟩, f1_0, f3_0, n13, n12, n23⟩ := M.out.all
       clear h1 k1 h2 k2 h3 k3 e1 e2 e3))
  obtain ⟨q1, q2, q3, q4⟩ := (M.out.set (d' := { d with place := 3 }) 0 (.int .i64 3) rfl rfl rfl).leaf
  refine bodyPost_ret (results_ct rfl _ _ g3 39 _ (0, 0) _ rfl q1 Tryd.underlying39 rfl (by kernel_rfl)) rfl ?_
  refine ⟨{ d with place := 3, e := 0 }, data, _, _, ?_, ⟨q2.1, q2.2⟩, q3, q4, fun _ => ?_, fun h => absurd (by rw [HE.out]) h⟩
  · rw [HE.out]; rfl
  · rw [HE.out]; exact ⟨rfl, (List.append_nil _).symm⟩

set_option maxHeartbeats 4000000 in
set_option maxRecDepth 100000 in
theorem step_2c {w0 w : World} {S : Nat → Prop} {d : Dc} {data : List Int} {vd vf : Value} (hB : Below w0.heap.size w0 w) (hr : SRows w w0.heap.size S d data vd vf) (hok : DInv d) (c : Int) (h0 : 0 ≤ c) (h1 : c ≤ 255) (he : d.e = 0) (hp : d.place = 2) (hc : c = 10) (hn : d.n = 0) :
    Calls Tryd.prog 57 #[.agg (sCells d vd vf), .int .u8 c, .agg (lCells d)] w (SPost w0 w S d data c) := by
  obtain ⟨b0, b1, b2, b3, b4, b5, b6, b7, b8, b9, b10⟩ := placesB hp
  obtain ⟨o1, o2, o3, o4, o5, o6⟩ := rangesB hok.ok
  have HE : Aside0 (bput d c = ({ { d with place := 6 } with e := 0 }, 1, [])) := ⟨bput_ok he (by omega) (by omega) (by simp [dStep, hp, dBegun, dTo, hc, hn])⟩
  have bc : (c != 10) = false := by exact bne_eq_false_iff_eq.mpr (by assumption)
  have bn : decide (0 < d.n) = false := decide_eq_false (by omega)
  obtain ⟨A6, c6, rfl⟩ := Kd.R_slice hr.data
  obtain ⟨A7, c7, rfl⟩ := Kd.R_slice hr.fields
  have H := Aside0.mk (And.intro hB hr)
  unfold sCells lCells
  clear hB hr hok h0 h1 he hp hc hn
  go_enter Tryd.func57, Tryd.ntmps57
  go_wp2_with (first
    | ((with_reducible refine gate_dst (N := 3) rfl ?_); refine box_event ?hg (N := 3) ?hd (cs := sCells d (.slice A6 data.length c6) (.slice A7 d.fields.length c7)) (t := 39) ?hr ?_; (case hd => rfl); (case hg => rfl); (case hr => first | (go_simp; done) | (go_simp; rfl)); intro g1 e1 w1 h1 k1)
    | ((with_reducible refine gate_dst (N := 5) rfl ?_); refine box_event ?hg (N := 5) ?hd (cs := lCells d) (t := 23) ?hr ?_; (case hd => rfl); (case hg => rfl); (case hr => first | (go_simp; done) | (go_simp; rfl)); intro g2 e2 w2 h2 k2)
    | ((with_reducible refine gate_dst (N := 6) rfl ?_); refine box_event ?hg (N := 6) ?hd (cs := zCells) (t := 39) ?hr ?_; (case hd => rfl); (case hg => rfl); (case hr => first | (go_simp; done) | (go_simp; rfl)); intro g3 e3 w3 h3 k3
       have M := Aside0.mk (SMid.start H.out.1 H.out.2 e1 h1 k1 e2 h2 k2 e3 h3 k3)
       have HW := Aside0.mk (below_step (below_step k1 k2) k3)
       obtain ⟨⟨a0_0, a1_0, a2_0, a3_0, a4_0, a5_0, a6_0, a7_0⟩, ⟨l0_0, l1_0, l2_0⟩, ⟨z0_0, z1_0, z2_0, z3_0, z4_0, z5_0, z6_0, z7_0⟩, f1_0, f3_0, n13, n12, n23⟩ := M.out.all
       clear h1 k1 h2 k2 h3 k3 e1 e2 e3))
  obtain ⟨q1, q2, q3, q4⟩ := (M.out.set (d' := { d with place := 6 }) 0 (.int .i64 6) rfl rfl rfl).leaf
  refine bodyPost_ret (results_ct rfl _ _ g3 39 _ (0, 0) _ rfl q1 Tryd.underlying39 rfl (by kernel_rfl)) rfl ?_
  refine ⟨{ d with place := 6, e := 0 }, data, _, _, ?_, ⟨q2.1, q2.2⟩, q3, q4, fun _ => ?_, fun h => absurd (by rw [HE.out]) h⟩
  · rw [HE.out]; rfl
  · rw [HE.out]; exact ⟨rfl, (List.append_nil _).symm⟩

set_option maxHeartbeats 4000000 in
set_option maxRecDepth 100000 in
theorem step_4a {w0 w : World} {S : Nat → Prop} {d : Dc} {data : List Int} {vd vf : Value} (hB : Below w0.heap.size w0 w) (hr : SRows w w0.heap.size S d data vd vf) (hok : DInv d) (c : Int) (h0 : 0 ≤ c) (h1 : c ≤ 255) (he : d.e = 0) (hp : d.place = 4) (hc : c ≠ 13) :
    Calls Tryd.prog 57 #[.agg (sCells d vd vf), .int .u8 c, .agg (lCells d)] w (SPost w0 w S d data c) := by
  obtain ⟨b0, b1, b2, b3, b4, b5, b6, b7, b8, b9, b10⟩ := placesB hp
  obtain ⟨o1, o2, o3, o4, o5, o6⟩ := rangesB hok.ok
  have HE : Aside0 ((bput d c).1.e = 2) := ⟨bput_no he (by omega) (by omega) (D := d) (by simp [dStep, hp, dClosed, dTo, hc]) (by decide)⟩
  have bc : (c != 13) = true := by exact bne_iff_ne.mpr (by assumption)
  obtain ⟨A6, c6, rfl⟩ := Kd.R_slice hr.data
  obtain ⟨A7, c7, rfl⟩ := Kd.R_slice hr.fields
  have H := Aside0.mk (And.intro hB hr)
  unfold sCells lCells
  clear hB hr hok h0 h1 he hp hc
  go_enter Tryd.func57, Tryd.ntmps57
  go_wp2_with (first
    | ((with_reducible refine gate_dst (N := 3) rfl ?_); refine box_event ?hg (N := 3) ?hd (cs := sCells d (.slice A6 data.length c6) (.slice A7 d.fields.length c7)) (t := 39) ?hr ?_; (case hd => rfl); (case hg => rfl); (case hr => first | (go_simp; done) | (go_simp; rfl)); intro g1 e1 w1 h1 k1)
    | ((with_reducible refine gate_dst (N := 5) rfl ?_); refine box_event ?hg (N := 5) ?hd (cs := lCells d) (t := 23) ?hr ?_; (case hd => rfl); (case hg => rfl); (case hr => first | (go_simp; done) | (go_simp; rfl)); intro g2 e2 w2 h2 k2)
    | ((with_reducible refine gate_dst (N := 6) rfl ?_); refine box_event ?hg (N := 6) ?hd (cs := zCells) (t := 39) ?hr ?_; (case hd => rfl); (case hg => rfl); (case hr => first | (go_simp; done) | (go_simp; rfl)); intro g3 e3 w3 h3 k3
       have M := Aside0.mk (SMid.start H.out.1 H.out.2 e1 h1 k1 e2 h2 k2 e3 h3 k3)
       have HW := Aside0.mk (below_step (below_step k1 k2) k3)
       obtain ⟨⟨a0_0, a1_0, a2_0, a3_0, a4_0, a5_0, a6_0, a7_0⟩, ⟨l0_0, l1_0, l2_0⟩, ⟨z0_0, z1_0, z2_0, z3_0, z4_0, z5_0, z6_0, z7_0⟩, f1_0, f3_0, n13, n12, n23⟩ := M.out.all
       clear h1 k1 h2 k2 h3 k3 e1 e2 e3))
  obtain ⟨q1, q2, q3, q4⟩ := M.out.leaf
  refine bodyPost_ret (results_ct rfl _ _ g3 39 _ (0, 0) _ rfl q1 Tryd.underlying39 rfl (by kernel_rfl)) rfl ?_
  exact ⟨_, _, _, _, by rw [HE.out]; rfl, q2, q3, q4, fun h => absurd (HE.out.symm.trans h) (by decide), fun _ => (leafB (d := d) (vd := .slice A6 data.length c6) (vf := .slice A7 d.fields.length c7) M.out.r HW.out M.out.g3w).2⟩

set_option maxHeartbeats 4000000 in
set_option maxRecDepth 100000 in
theorem step_4b {w0 w : World} {S : Nat → Prop} {d : Dc} {data : List Int} {vd vf : Value} (hB : Below w0.heap.size w0 w) (hr : SRows w w0.heap.size S d data vd vf) (hok : DInv d) (c : Int) (h0 : 0 ≤ c) (h1 : c ≤ 255) (he : d.e = 0) (hp : d.place = 4) (hc : c = 13) :
    Calls Tryd.prog 57 #[.agg (sCells d vd vf), .int .u8 c, .agg (lCells d)] w (SPost w0 w S d data c) := by
  obtain ⟨b0, b1, b2, b3, b4, b5, b6, b7, b8, b9, b10⟩ := placesB hp
  obtain ⟨o1, o2, o3, o4, o5, o6⟩ := rangesB hok.ok
  have HE : Aside0 (bput d c = ({ { d with place := 5 } with e := 0 }, 1, [])) := ⟨bput_ok he (by omega) (by omega) (by simp [dStep, hp, dClosed, dTo, hc])⟩
  have bc : (c != 13) = false := by exact bne_eq_false_iff_eq.mpr (by assumption)
  obtain ⟨A6, c6, rfl⟩ := Kd.R_slice hr.data
  obtain ⟨A7, c7, rfl⟩ := Kd.R_slice hr.fields
  have H := Aside0.mk (And.intro hB hr)
  unfold sCells lCells
  clear hB hr hok h0 h1 he hp hc
  go_enter Tryd.func57, Tryd.ntmps57
  go_wp2_with (first
    | ((with_reducible refine gate_dst (N := 3) rfl ?_); refine box_event ?hg (N := 3) ?hd (cs := sCells d (.slice A6 data.length c6) (.slice A7 d.fields.length c7)) (t := 39) ?hr ?_; (case hd => rfl); (case hg => rfl); (case hr => first | (go_simp; done) | (go_simp; rfl)); intro g1 e1 w1 h1 k1)
    | ((with_reducible refine gate_dst (N := 5) rfl ?_); refine box_event ?hg (N := 5) ?hd (cs := lCells d) (t := 23) ?hr ?_; (case hd => rfl); (case hg => rfl); (case hr => first | (go_simp; done) | (go_simp; rfl)); intro g2 e2 w2 h2 k2)
    | ((with_reducible refine gate_dst (N := 6) rfl ?_); refine box_event ?hg (N := 6) ?hd (cs := zCells) (t := 39) ?hr ?_; (case hd => rfl); (case hg => rfl); (case hr => first | (go_simp; done) | (go_simp; rfl)); intro g3 e3 w3 h3 k3
       have M := Aside0.mk (SMid.start H.out.1 H.out.2 e1 h1 k1 e2 h2 k2 e3 h3 k3)
       have HW := Aside0.mk (below_step (below_step k1 k2) k3)
       obtain ⟨⟨a0_0, a1_0, a2_0, a3_0, a4_0, a5_0, a6_0, a7_0⟩, ⟨l0_0, l1_0, l2_0⟩, ⟨z0_0, z1_0, z2_0, z3_0, z4_0, z5_0, z6_0, z7_0⟩, f1_0, f3_0, n13, n12, n23⟩ := M.out.all
       clear h1 k1 h2 k2 h3 k3 e1 e2 e3))
  obtain ⟨q1, q2, q3, q4⟩ := (M.out.set (d' := { d with place := 5 }) 0 (.int .i64 5) rfl rfl rfl).leaf
  refine bodyPost_ret (results_ct rfl _ _ g3 39 _ (0, 0) _ rfl q1 Tryd.underlying39 rfl (by kernel_rfl)) rfl ?_
  refine ⟨{ d with place := 5, e := 0 }, data, _, _, ?_, ⟨q2.1, q2.2⟩, q3, q4, fun _ => ?_, fun h => absurd (by rw [HE.out]) h⟩
  · rw [HE.out]; rfl
  · rw [HE.out]; exact ⟨rfl, (List.append_nil _).symm⟩

set_option maxHeartbeats 4000000 in
set_option maxRecDepth 100000 in
theorem step_5a {w0 w : World} {S : Nat → Prop} {d : Dc} {data : List Int} {vd vf : Value} (hB : Below w0.heap.size w0 w) (hr : SRows w w0.heap.size S d data vd vf) (hok : DInv d) (c : Int) (h0 : 0 ≤ c) (h1 : c ≤ 255) (he : d.e = 0) (hp : d.place = 5) (hc : c ≠ 10) :
    Calls Tryd.prog 57 #[.agg (sCells d vd vf), .int .u8 c, .agg (lCells d)] w (SPost w0 w S d data c) := by
  obtain ⟨b0, b1, b2, b3, b4, b5, b6, b7, b8, b9, b10⟩ := placesB hp
  obtain ⟨o1, o2, o3, o4, o5, o6⟩ := rangesB hok.ok
  have HE : Aside0 ((bput d c).1.e = 2) := ⟨bput_no he (by omega) (by omega) (D := { d with count := 0 }) (by simp [dStep, hp, dAgain, dTo, hc]) (by decide)⟩
  have bc : (c != 10) = true := by exact bne_iff_ne.mpr (by assumption)
  obtain ⟨A6, c6, rfl⟩ := Kd.R_slice hr.data
  obtain ⟨A7, c7, rfl⟩ := Kd.R_slice hr.fields
  have H := Aside0.mk (And.intro hB hr)
  unfold sCells lCells
  clear hB hr hok h0 h1 he hp hc
  go_enter Tryd.func57, Tryd.ntmps57
  go_wp2_with (first
    | ((with_reducible refine gate_dst (N := 3) rfl ?_); refine box_event ?hg (N := 3) ?hd (cs := sCells d (.slice A6 data.length c6) (.slice A7 d.fields.length c7)) (t := 39) ?hr ?_; (case hd => rfl); (case hg => rfl); (case hr => first | (go_simp; done) | (go_simp; rfl)); intro g1 e1 w1 h1 k1)
    | ((with_reducible refine gate_dst (N := 5) rfl ?_); refine box_event ?hg (N := 5) ?hd (cs := lCells d) (t := 23) ?hr ?_; (case hd => rfl); (case hg => rfl); (case hr => first | (go_simp; done) | (go_simp; rfl)); intro g2 e2 w2 h2 k2)
    | ((with_reducible refine gate_dst (N := 6) rfl ?_); refine box_event ?hg (N := 6) ?hd (cs := zCells) (t := 39) ?hr ?_; (case hd => rfl); (case hg => rfl); (case hr => first | (go_simp; done) | (go_simp; rfl)); intro g3 e3 w3 h3 k3
       have M := Aside0.mk (SMid.start H.out.1 H.out.2 e1 h1 k1 e2 h2 k2 e3 h3 k3)
       have HW := Aside0.mk (below_step (below_step k1 k2) k3)
       obtain ⟨⟨a0_0, a1_0, a2_0, a3_0, a4_0, a5_0, a6_0, a7_0⟩, ⟨l0_0, l1_0, l2_0⟩, ⟨z0_0, z1_0, z2_0, z3_0, z4_0, z5_0, z6_0, z7_0⟩, f1_0, f3_0, n13, n12, n23⟩ := M.out.all
       clear h1 k1 h2 k2 h3 k3 e1 e2 e3))
  obtain ⟨q1, q2, q3, q4⟩ := M.out.leaf
  refine bodyPost_ret (results_ct rfl _ _ g3 39 _ (0, 0) _ rfl q1 Tryd.underlying39 rfl (by kernel_rfl)) rfl ?_
  exact ⟨_, _, _, _, by rw [HE.out]; rfl, q2, q3, q4, fun h => absurd (HE.out.symm.trans h) (by decide), fun _ => (leafB (d := d) (vd := .slice A6 data.length c6) (vf := .slice A7 d.fields.length c7) M.out.r HW.out M.out.g3w).2⟩

set_option maxHeartbeats 4000000 in
set_option maxRecDepth 100000 in
theorem step_5b {w0 w : World} {S : Nat → Prop} {d : Dc} {data : List Int} {vd vf : Value} (hB : Below w0.heap.size w0 w) (hr : SRows w w0.heap.size S d data vd vf) (hok : DInv d) (c : Int) (h0 : 0 ≤ c) (h1 : c ≤ 255) (he : d.e = 0) (hp : d.place = 5) (hc : c = 10) :
    Calls Tryd.prog 57 #[.agg (sCells d vd vf), .int .u8 c, .agg (lCells d)] w (SPost w0 w S d data c) := by
  obtain ⟨b0, b1, b2, b3, b4, b5, b6, b7, b8, b9, b10⟩ := placesB hp
  obtain ⟨o1, o2, o3, o4, o5, o6⟩ := rangesB hok.ok
  have HE : Aside0 (bput d c = ({ { d with count := 0, place := 0 } with e := 0 }, 1, [])) := ⟨bput_ok he (by omega) (by omega) (by simp [dStep, hp, dAgain, dTo, hc])⟩
  have bc : (c != 10) = false := by exact bne_eq_false_iff_eq.mpr (by assumption)
  obtain ⟨A6, c6, rfl⟩ := Kd.R_slice hr.data
  obtain ⟨A7, c7, rfl⟩ := Kd.R_slice hr.fields
  have H := Aside0.mk (And.intro hB hr)
  unfold sCells lCells
  clear hB hr hok h0 h1 he hp hc
  go_enter Tryd.func57, Tryd.ntmps57
  go_wp2_with (first
    | ((with_reducible refine gate_dst (N := 3) rfl ?_); refine box_event ?hg (N := 3) ?hd (cs := sCells d (.slice A6 data.length c6) (.slice A7 d.fields.length c7)) (t := 39) ?hr ?_; (case hd => rfl); (case hg => rfl); (case hr => first | (go_simp; done) | (go_simp; rfl)); intro g1 e1 w1 h1 k1)
    | ((with_reducible refine gate_dst (N := 5) rfl ?_); refine box_event ?hg (N := 5) ?hd (cs := lCells d) (t := 23) ?hr ?_; (case hd => rfl); (case hg => rfl); (case hr => first | (go_simp; done) | (go_simp; rfl)); intro g2 e2 w2 h2 k2)
    | ((with_reducible refine gate_dst (N := 6) rfl ?_); refine box_event ?hg (N := 6) ?hd (cs := zCells) (t := 39) ?hr ?_; (case hd => rfl); (case hg => rfl); (case hr => first | (go_simp; done) | (go_simp; rfl)); intro g3 e3 w3 h3 k3
       have M := Aside0.mk (SMid.start H.out.1 H.out.2 e1 h1 k1 e2 h2 k2 e3 h3 k3)
       have HW := Aside0.mk (below_step (below_step k1 k2) k3)
       obtain ⟨⟨a0_0, a1_0, a2_0, a3_0, a4_0, a5_0, a6_0, a7_0⟩, ⟨l0_0, l1_0, l2_0⟩, ⟨z0_0, z1_0, z2_0, z3_0, z4_0, z5_0, z6_0, z7_0⟩, f1_0, f3_0, n13, n12, n23⟩ := M.out.all
       clear h1 k1 h2 k2 h3 k3 e1 e2 e3))
  obtain ⟨q1, q2, q3, q4⟩ := ((M.out.set (d' := { d with place := 0 }) 0 (.int .i64 0) rfl rfl rfl).set (d' := { d with place := 0, count := 0 }) 2 (.int .i64 0) rfl rfl rfl).leaf
  refine bodyPost_ret (results_ct rfl _ _ g3 39 _ (0, 0) _ rfl q1 Tryd.underlying39 rfl (by kernel_rfl)) rfl ?_
  refine ⟨{ d with place := 0, count := 0, e := 0 }, data, _, _, ?_, ⟨q2.1, q2.2⟩, q3, q4, fun _ => ?_, fun h => absurd (by rw [HE.out]) h⟩
  · rw [HE.out]; rfl
  · rw [HE.out]; exact ⟨rfl, (List.append_nil _).symm⟩

set_option maxHeartbeats 4000000 in
set_option maxRecDepth 100000 in
theorem step_10a {w0 w : World} {S : Nat → Prop} {d : Dc} {data : List Int} {vd vf : Value} (hB : Below w0.heap.size w0 w) (hr : SRows w w0.heap.size S d data vd vf) (hok : DInv d) (c : Int) (h0 : 0 ≤ c) (h1 : c ≤ 255) (he : d.e = 0) (hp : d.place = 10) (hc : c ≠ 10) :
    Calls Tryd.prog 57 #[.agg (sCells d vd vf), .int .u8 c, .agg (lCells d)] w (SPost w0 w S d data c) := by
  obtain ⟨b0, b1, b2, b3, b4, b5, b6, b7, b8, b9, b10⟩ := placesB hp
  obtain ⟨o1, o2, o3, o4, o5, o6⟩ := rangesB hok.ok
  have HE : Aside0 ((bput d c).1.e = 2) := ⟨bput_no he (by omega) (by omega) (D := d) (by simp [dStep, hp, dFinish, dTo, hc]) (by decide)⟩
  have bc : (c != 10) = true := by exact bne_iff_ne.mpr (by assumption)
  obtain ⟨A6, c6, rfl⟩ := Kd.R_slice hr.data
  obtain ⟨A7, c7, rfl⟩ := Kd.R_slice hr.fields
  have H := Aside0.mk (And.intro hB hr)
  unfold sCells lCells
  clear hB hr hok h0 h1 he hp hc
  go_enter Tryd.func57, Tryd.ntmps57
  go_wp2_with (first
    | ((with_reducible refine gate_dst (N := 3) rfl ?_); refine box_event ?hg (N := 3) ?hd (cs := sCells d (.slice A6 data.length c6) (.slice A7 d.fields.length c7)) (t := 39) ?hr ?_; (case hd => rfl); (case hg => rfl); (case hr => first | (go_simp; done) | (go_simp; rfl)); intro g1 e1 w1 h1 k1)
    | ((with_reducible refine gate_dst (N := 5) rfl ?_); refine box_event ?hg (N := 5) ?hd (cs := lCells d) (t := 23) ?hr ?_; (case hd => rfl); (case hg => rfl); (case hr => first | (go_simp; done) | (go_simp; rfl)); intro g2 e2 w2 h2 k2)
    | ((with_reducible refine gate_dst (N := 6) rfl ?_); refine box_event ?hg (N := 6) ?hd (cs := zCells) (t := 39) ?hr ?_; (case hd => rfl); (case hg => rfl); (case hr => first | (go_simp; done) | (go_simp; rfl)); intro g3 e3 w3 h3 k3
       have M := Aside0.mk (SMid.start H.out.1 H.out.2 e1 h1 k1 e2 h2 k2 e3 h3 k3)
       have HW := Aside0.mk (below_step (below_step k1 k2) k3)
       obtain ⟨⟨a0_0, a1_0, a2_0, a3_0, a4_0, a5_0, a6_0, a7_0⟩, ⟨l0_0, l1_0, l2_0⟩, ⟨z0_0, z1_0, z2_0, z3_0, z4_0, z5_0, z6_0, z7_0⟩, f1_0, f3_0, n13, n12, n23⟩ := M.out.all
       clear h1 k1 h2 k2 h3 k3 e1 e2 e3))
  obtain ⟨q1, q2, q3, q4⟩ := M.out.leaf
  refine bodyPost_ret (results_ct rfl _ _ g3 39 _ (0, 0) _ rfl q1 Tryd.underlying39 rfl (by kernel_rfl)) rfl ?_
  exact ⟨_, _, _, _, by rw [HE.out]; rfl, q2, q3, q4, fun h => absurd (HE.out.symm.trans h) (by decide), fun _ => (leafB (d := d) (vd := .slice A6 data.length c6) (vf := .slice A7 d.fields.length c7) M.out.r HW.out M.out.g3w).2⟩

set_option maxHeartbeats 4000000 in
set_option maxRecDepth 100000 in
theorem step_10b {w0 w : World} {S : Nat → Prop} {d : Dc} {data : List Int} {vd vf : Value} (hB : Below w0.heap.size w0 w) (hr : SRows w w0.heap.size S d data vd vf) (hok : DInv d) (c : Int) (h0 : 0 ≤ c) (h1 : c ≤ 255) (he : d.e = 0) (hp : d.place = 10) (hc : c = 10) :
    Calls Tryd.prog 57 #[.agg (sCells d vd vf), .int .u8 c, .agg (lCells d)] w (SPost w0 w S d data c) := by
  obtain ⟨b0, b1, b2, b3, b4, b5, b6, b7, b8, b9, b10⟩ := placesB hp
  obtain ⟨o1, o2, o3, o4, o5, o6⟩ := rangesB hok.ok
  have HE : Aside0 (bput d c = ({ { d with place := 11 } with e := 0 }, 1, [])) := ⟨bput_ok he (by omega) (by omega) (by simp [dStep, hp, dFinish, dTo, hc])⟩
  have bc : (c != 10) = false := by exact bne_eq_false_iff_eq.mpr (by assumption)
  obtain ⟨A6, c6, rfl⟩ := Kd.R_slice hr.data
  obtain ⟨A7, c7, rfl⟩ := Kd.R_slice hr.fields
  have H := Aside0.mk (And.intro hB hr)
  unfold sCells lCells
  clear hB hr hok h0 h1 he hp hc
  go_enter Tryd.func57, Tryd.ntmps57
  go_wp2_with (first
    | ((with_reducible refine gate_dst (N := 3) rfl ?_); refine box_event ?hg (N := 3) ?hd (cs := sCells d (.slice A6 data.length c6) (.slice A7 d.fields.length c7)) (t := 39) ?hr ?_; (case hd => rfl); (case hg => rfl); (case hr => first | (go_simp; done) | (go_simp; rfl)); intro g1 e1 w1 h1 k1)
    | ((with_reducible refine gate_dst (N := 5) rfl ?_); refine box_event ?hg (N := 5) ?hd (cs := lCells d) (t := 23) ?hr ?_; (case hd => rfl); (case hg => rfl); (case hr => first | (go_simp; done) | (go_simp; rfl)); intro g2 e2 w2 h2 k2)
    | ((with_reducible refine gate_dst (N := 6) rfl ?_); refine box_event ?hg (N := 6) ?hd (cs := zCells) (t := 39) ?hr ?_; (case hd => rfl); (case hg => rfl); (case hr => first | (go_simp; done) | (go_simp; rfl)); intro g3 e3 w3 h3 k3
       have M := Aside0.mk (SMid.start H.out.1 H.out.2 e1 h1 k1 e2 h2 k2 e3 h3 k3)
       have HW := Aside0.mk (below_step (below_step k1 k2) k3)
       obtain ⟨⟨a0_0, a1_0, a2_0, a3_0, a4_0, a5_0, a6_0, a7_0⟩, ⟨l0_0, l1_0, l2_0⟩, ⟨z0_0, z1_0, z2_0, z3_0, z4_0, z5_0, z6_0, z7_0⟩, f1_0, f3_0, n13, n12, n23⟩ := M.out.all
       clear h1 k1 h2 k2 h3 k3 e1 e2 e3))
  obtain ⟨q1, q2, q3, q4⟩ := (M.out.set (d' := { d with place := 11 }) 0 (.int .i64 11) rfl rfl rfl).leaf
  refine bodyPost_ret (results_ct rfl _ _ g3 39 _ (0, 0) _ rfl q1 Tryd.underlying39 rfl (by kernel_rfl)) rfl ?_
  refine ⟨{ d with place := 11, e := 0 }, data, _, _, ?_, ⟨q2.1, q2.2⟩, q3, q4, fun _ => ?_, fun h => absurd (by rw [HE.out]) h⟩
  · rw [HE.out]; rfl
  · rw [HE.out]; exact ⟨rfl, (List.append_nil _).symm⟩

end Go.Proofs.YtebjfgkgfgbndaaDoor

namespace Go.Proofs.YtebjfgkgfgbndaaDoor
open Go.RowKit Go.Proofs.YtebjfgkgfgbndaaDoorW.PrintWords Go.Proofs.YtebjfgkgfgbndaaDoorW.PrintLast Go.Proofs.YtebjfgkgfgbndaaDoorW.PrintMore
open PBodyScans
set_option linter.unusedVariables false
set_option linter.unusedSimpArgs false

set_option maxHeartbeats 4000000 in
set_option maxRecDepth 100000 in
/-- A line's byte where the fields' bytes are used up: nothing turns. -/
theorem line_no {w : World} {d : Dc} {A6 A7 : Option Addr} {n6 c6 n7 c7 : Nat} (c : Int) (hs : d.size ≥ d.byts) :
    Calls Tryd.prog 87 #[.agg (sCells d (.slice A6 n6 c6) (.slice A7 n7 c7)), .int .u8 c, .agg (lCells d)] w fun e w' => e = .returned (.tuple #[.agg (sCells d (.slice A6 n6 c6) (.slice A7 n7 c7)), .int .i64 5]) ∧ Below w.heap.size w w' := by
  have bs : decide (d.byts ≤ d.size) = true := decide_eq_true hs
  clear hs
  unfold sCells lCells
  go_enter Tryd.func87, Tryd.ntmps87
  go_wp2_with (first
    | ((with_reducible refine gate_dst (N := 3) rfl ?_); refine box_event ?hg (N := 3) ?hd (cs := sCells d (.slice A6 n6 c6) (.slice A7 n7 c7)) (t := 39) ?hr ?_; (case hd => rfl); (case hg => rfl); (case hr => first | (go_simp; done) | (go_simp; rfl)); intro g1 e1 w1 h1 k1)
    | ((with_reducible refine gate_dst (N := 5) rfl ?_); refine box_event ?hg (N := 5) ?hd (cs := lCells d) (t := 23) ?hr ?_; (case hd => rfl); (case hg => rfl); (case hr => first | (go_simp; done) | (go_simp; rfl)); intro g2 e2 w2 h2 k2)
    | ((with_reducible refine gate_dst (N := 6) rfl ?_); refine box_event ?hg (N := 6) ?hd (cs := zCells) (t := 39) ?hr ?_; (case hd => rfl); (case hg => rfl); (case hr => first | (go_simp; done) | (go_simp; rfl)); intro g3 e3 w3 h3 k3
       have k13 := below_step (below_step k1 k2) k3
       have HW := Aside0.mk k13
       have i1 := blk_below (blk_below h1 k2) k3
       have i2 := blk_below h2 k3
       have n13 : g1 ≠ g3 := (by have := blk_lt h1; have := k2.size; omega)
       have g3w : w.heap.size ≤ g3 := (by have := (below_step k1 k2).size; omega)
       have HG := Aside0.mk (And.intro h3 g3w)
       have a0 : w3.cell? ⟨g1, 0, none⟩ = some (.int .i64 d.place) := blk_cell i1 0
       have a1 : w3.cell? ⟨g1, 1, none⟩ = some (.int .u64 d.n) := blk_cell i1 1
       have a2 : w3.cell? ⟨g1, 2, none⟩ = some (.int .i64 d.count) := blk_cell i1 2
       have a3 : w3.cell? ⟨g1, 3, none⟩ = some (.int .i64 d.lines) := blk_cell i1 3
       have a4 : w3.cell? ⟨g1, 4, none⟩ = some (.int .i64 d.size) := blk_cell i1 4
       have a5 : w3.cell? ⟨g1, 5, none⟩ = some (.string (strOfNums d.line)) := blk_cell i1 5
       have a6 : w3.cell? ⟨g1, 6, none⟩ = some (.slice A6 n6 c6) := blk_cell i1 6
       have a7 : w3.cell? ⟨g1, 7, none⟩ = some (.slice A7 n7 c7) := blk_cell i1 7
       have l2 : w3.cell? ⟨g2, 2, none⟩ = some (.int .i64 d.byts) := blk_cell i2 2
       have z0 : w3.cell? ⟨g3, 0, none⟩ = some (.int .i64 0) := blk_cell h3 0
       have z1 : w3.cell? ⟨g3, 1, none⟩ = some (.int .u64 0) := blk_cell h3 1
       have z2 : w3.cell? ⟨g3, 2, none⟩ = some (.int .i64 0) := blk_cell h3 2
       have z3 : w3.cell? ⟨g3, 3, none⟩ = some (.int .i64 0) := blk_cell h3 3
       have z4 : w3.cell? ⟨g3, 4, none⟩ = some (.int .i64 0) := blk_cell h3 4
       have z5 : w3.cell? ⟨g3, 5, none⟩ = some (.string (⟨#[]⟩ : ByteArray)) := blk_cell h3 5
       have z6 : w3.cell? ⟨g3, 6, none⟩ = some (.slice none 0 0) := blk_cell h3 6
       have z7 : w3.cell? ⟨g3, 7, none⟩ = some (.slice none 0 0) := blk_cell h3 7
       have f1 := blk_frozen i1
       have f3 := blk_frozen h3
       clear h1 h2 h3 k1 k2 k3 e1 e2 e3 k13 i1 i2 g3w))
  obtain ⟨q1, q2⟩ := leafB (d := d) (vd := .slice A6 n6 c6) (vf := .slice A7 n7 c7) HG.out.1 HW.out HG.out.2
  refine bodyPost_ret (results_ct rfl _ _ g3 39 _ (0, 0) _ rfl q1 Tryd.underlying39 rfl (by kernel_rfl)) rfl ?_
  exact ⟨rfl, q2⟩

set_option maxHeartbeats 4000000 in
set_option maxRecDepth 100000 in
theorem step_9a {w0 w : World} {S : Nat → Prop} {d : Dc} {data : List Int} {vd vf : Value} (hB : Below w0.heap.size w0 w) (hr : SRows w w0.heap.size S d data vd vf) (hok : DInv d) (c : Int) (h0 : 0 ≤ c) (h1 : c ≤ 255) (he : d.e = 0) (hp : d.place = 9) (hc : c ≠ 10) :
    Calls Tryd.prog 57 #[.agg (sCells d vd vf), .int .u8 c, .agg (lCells d)] w (SPost w0 w S d data c) := by
  obtain ⟨b0, b1, b2, b3, b4, b5, b6, b7, b8, b9, b10⟩ := placesB hp
  obtain ⟨o1, o2, o3, o4, o5, o6⟩ := rangesB hok.ok
  have HE : Aside0 ((bput d c).1.e = 2) := ⟨bput_no he (by omega) (by omega) (D := d) (by simp [dStep, hp, dLine, hc]) (by decide)⟩
  have bc : (c != 10) = true := by exact bne_iff_ne.mpr (by assumption)
  obtain ⟨A6, c6, rfl⟩ := Kd.R_slice hr.data
  obtain ⟨A7, c7, rfl⟩ := Kd.R_slice hr.fields
  have H := Aside0.mk (And.intro hB hr)
  unfold sCells lCells
  clear hB hr hok h0 h1 he hp hc
  go_enter Tryd.func57, Tryd.ntmps57
  go_wp2_with (first
    | ((with_reducible refine gate_dst (N := 3) rfl ?_); refine box_event ?hg (N := 3) ?hd (cs := sCells d (.slice A6 data.length c6) (.slice A7 d.fields.length c7)) (t := 39) ?hr ?_; (case hd => rfl); (case hg => rfl); (case hr => first | (go_simp; done) | (go_simp; rfl)); intro g1 e1 w1 h1 k1)
    | ((with_reducible refine gate_dst (N := 5) rfl ?_); refine box_event ?hg (N := 5) ?hd (cs := lCells d) (t := 23) ?hr ?_; (case hd => rfl); (case hg => rfl); (case hr => first | (go_simp; done) | (go_simp; rfl)); intro g2 e2 w2 h2 k2)
    | ((with_reducible refine gate_dst (N := 6) rfl ?_); refine box_event ?hg (N := 6) ?hd (cs := zCells) (t := 39) ?hr ?_; (case hd => rfl); (case hg => rfl); (case hr => first | (go_simp; done) | (go_simp; rfl)); intro g3 e3 w3 h3 k3
       have M := Aside0.mk (SMid.start H.out.1 H.out.2 e1 h1 k1 e2 h2 k2 e3 h3 k3)
       have HW := Aside0.mk (below_step (below_step k1 k2) k3)
       obtain ⟨⟨a0_0, a1_0, a2_0, a3_0, a4_0, a5_0, a6_0, a7_0⟩, ⟨l0_0, l1_0, l2_0⟩, ⟨z0_0, z1_0, z2_0, z3_0, z4_0, z5_0, z6_0, z7_0⟩, f1_0, f3_0, n13, n12, n23⟩ := M.out.all
       clear h1 k1 h2 k2 h3 k3 e1 e2 e3))
  obtain ⟨q1, q2, q3, q4⟩ := M.out.leaf
  refine bodyPost_ret (results_ct rfl _ _ g3 39 _ (0, 0) _ rfl q1 Tryd.underlying39 rfl (by kernel_rfl)) rfl ?_
  exact ⟨_, _, _, _, by rw [HE.out]; rfl, q2, q3, q4, fun h => absurd (HE.out.symm.trans h) (by decide), fun _ => (leafB (d := d) (vd := .slice A6 data.length c6) (vf := .slice A7 d.fields.length c7) M.out.r HW.out M.out.g3w).2⟩

set_option maxHeartbeats 4000000 in
set_option maxRecDepth 100000 in
theorem step_9b {w0 w : World} {S : Nat → Prop} {d : Dc} {data : List Int} {vd vf : Value} (hB : Below w0.heap.size w0 w) (hr : SRows w w0.heap.size S d data vd vf) (hok : DInv d) (c : Int) (h0 : 0 ≤ c) (h1 : c ≤ 255) (he : d.e = 0) (hp : d.place = 9) (hc : c = 10) (hs : ¬ d.size ≥ d.byts) :
    Calls Tryd.prog 57 #[.agg (sCells d vd vf), .int .u8 c, .agg (lCells d)] w (SPost w0 w S d data c) := by
  obtain ⟨b0, b1, b2, b3, b4, b5, b6, b7, b8, b9, b10⟩ := placesB hp
  obtain ⟨o1, o2, o3, o4, o5, o6⟩ := rangesB hok.ok
  subst hc
  have HE : Aside0 (LB d d 10) := ⟨line_bput he (by omega) (by omega) (by simp [dStep, hp, rLine, hs, dLine]) (by simp [dStep, hp, rLine, hs, dLine])⟩
  have HZ : Aside0 ((rLine d 10).2 = 0) := ⟨by simp [rLine, hs, hp]⟩
  have HL := Aside0.mk (rLine_f d hok.ok 10 (fun _ => hok.l9) data d.ext d.flds)
  obtain ⟨A6, c6, rfl⟩ := Kd.R_slice hr.data
  obtain ⟨A7, c7, rfl⟩ := Kd.R_slice hr.fields
  have H := Aside0.mk (And.intro hB hr)
  unfold sCells lCells
  clear hB hr hok h0 h1 he hp hs
  go_enter Tryd.func57, Tryd.ntmps57
  go_wp2_with (first
    | ((with_reducible refine gate_dst (N := 3) rfl ?_); refine box_event ?hg (N := 3) ?hd (cs := sCells d (.slice A6 data.length c6) (.slice A7 d.fields.length c7)) (t := 39) ?hr ?_; (case hd => rfl); (case hg => rfl); (case hr => first | (go_simp; done) | (go_simp; rfl)); intro g1 e1 w1 h1 k1)
    | ((with_reducible refine gate_dst (N := 5) rfl ?_); refine box_event ?hg (N := 5) ?hd (cs := lCells d) (t := 23) ?hr ?_; (case hd => rfl); (case hg => rfl); (case hr => first | (go_simp; done) | (go_simp; rfl)); intro g2 e2 w2 h2 k2)
    | ((with_reducible refine gate_dst (N := 6) rfl ?_); refine box_event ?hg (N := 6) ?hd (cs := zCells) (t := 39) ?hr ?_; (case hd => rfl); (case hg => rfl); (case hr => first | (go_simp; done) | (go_simp; rfl)); intro g3 e3 w3 h3 k3
       have M := Aside0.mk (SMid.start H.out.1 H.out.2 e1 h1 k1 e2 h2 k2 e3 h3 k3)
       have HW := Aside0.mk (below_step (below_step k1 k2) k3)
       obtain ⟨⟨a0_0, a1_0, a2_0, a3_0, a4_0, a5_0, a6_0, a7_0⟩, ⟨l0_0, l1_0, l2_0⟩, ⟨z0_0, z1_0, z2_0, z3_0, z4_0, z5_0, z6_0, z7_0⟩, f1_0, f3_0, n13, n12, n23⟩ := M.out.all
       clear h1 k1 h2 k2 h3 k3 e1 e2 e3))
  clear a0_0 a1_0 a2_0 a3_0 a4_0 a5_0 a6_0 a7_0 l0_0 l1_0 l2_0 z0_0 z1_0 z2_0 z3_0 z4_0 z5_0 z6_0 z7_0 f1_0 f3_0
  have MP := Aside0.mk M.out.apart
  refine (catchpitref08_line.calls 200000 _ _ _ _ _ _ (fun k => (S k ∨ w.heap.size ≤ k) ∧ k ≠ g3) _ data (fun k => (S k ∨ w.heap.size ≤ k) ∧ k ≠ g3) _ d.fields 10 _ _ _ _ _ _ _ _ _ _ _ _ w0 _ M.out.below MP.out.1 MP.out.2 HL.out).mono ?_
  rintro e w5 ⟨v6, v7, rfl, r1, r2, r3, r4⟩
  obtain ⟨A8, c8, rfl⟩ := Kd.R_slice r1
  obtain ⟨A9, c9, rfl⟩ := Kd.R_slice r2
  obtain ⟨p1, p2, p3, p4⟩ := M.out.lined (d2 := (rLine d 10).1) r1 r2 r3 r4
  have g3w := M.out.g3w
  have w0w := M.out.w0w
  have HQ := Aside0.mk (And.intro p1 (And.intro p2 (And.intro p3 (And.intro p4 (And.intro g3w w0w)))))
  have y0 : w5.cell? ⟨g3, 0, none⟩ = some (.int .i64 0) := blk_cell p1 0
  have y1 : w5.cell? ⟨g3, 1, none⟩ = some (.int .u64 0) := blk_cell p1 1
  have y2 : w5.cell? ⟨g3, 2, none⟩ = some (.int .i64 0) := blk_cell p1 2
  have y3 : w5.cell? ⟨g3, 3, none⟩ = some (.int .i64 0) := blk_cell p1 3
  have y4 : w5.cell? ⟨g3, 4, none⟩ = some (.int .i64 0) := blk_cell p1 4
  have y5 : w5.cell? ⟨g3, 5, none⟩ = some (.string (⟨#[]⟩ : ByteArray)) := blk_cell p1 5
  have y6 : w5.cell? ⟨g3, 6, none⟩ = some (.slice none 0 0) := blk_cell p1 6
  have y7 : w5.cell? ⟨g3, 7, none⟩ = some (.slice none 0 0) := blk_cell p1 7
  have fz := blk_frozen p1
  clear r1 r2 r3 r4 p1 p2 p3 p4 MP g3w w0w
  go_wp2_with fail
  obtain ⟨q1, q2, q3, q4⟩ := leaf8 HQ.out.1 HQ.out.2.1 HQ.out.2.2.1 HQ.out.2.2.2.1 HQ.out.2.2.2.2.1 HQ.out.2.2.2.2.2
  refine bodyPost_ret (results_ct rfl _ _ g3 39 _ (0, 0) _ rfl q1 Tryd.underlying39 rfl (by kernel_rfl)) rfl ?_
  refine ⟨{ (rLine d 10).1 with e := 0 }, data, _, _, ?_, ⟨q2.1, q2.2⟩, q3, q4, fun h => ?_, fun h => absurd (HE.out.1.trans HZ.out) h⟩
  · rw [HE.out.1]; rfl
  · have h2 := HE.out.2 (HE.out.1.symm.trans h)
    exact ⟨h2.1, by rw [h2.2]; exact (List.append_nil _).symm⟩

set_option maxHeartbeats 4000000 in
set_option maxRecDepth 100000 in
theorem step_9n {w0 w : World} {S : Nat → Prop} {d : Dc} {data : List Int} {vd vf : Value} (hB : Below w0.heap.size w0 w) (hr : SRows w w0.heap.size S d data vd vf) (hok : DInv d) (c : Int) (h0 : 0 ≤ c) (h1 : c ≤ 255) (he : d.e = 0) (hp : d.place = 9) (hc : c = 10) (hs : d.size ≥ d.byts) :
    Calls Tryd.prog 57 #[.agg (sCells d vd vf), .int .u8 c, .agg (lCells d)] w (SPost w0 w S d data c) := by
  obtain ⟨b0, b1, b2, b3, b4, b5, b6, b7, b8, b9, b10⟩ := placesB hp
  obtain ⟨o1, o2, o3, o4, o5, o6⟩ := rangesB hok.ok
  subst hc
  have HE : Aside0 ((bput d 10).1.e = 5) := ⟨bput_no he (by omega) (by omega) (D := d) (by simp [dStep, hp, dLine, hs]) (by decide)⟩
  have HS := Aside0.mk hs
  obtain ⟨A6, c6, rfl⟩ := Kd.R_slice hr.data
  obtain ⟨A7, c7, rfl⟩ := Kd.R_slice hr.fields
  have H := Aside0.mk (And.intro hB hr)
  unfold sCells lCells
  clear hB hr hok h0 h1 he hp hs
  go_enter Tryd.func57, Tryd.ntmps57
  go_wp2_with (first
    | ((with_reducible refine gate_dst (N := 3) rfl ?_); refine box_event ?hg (N := 3) ?hd (cs := sCells d (.slice A6 data.length c6) (.slice A7 d.fields.length c7)) (t := 39) ?hr ?_; (case hd => rfl); (case hg => rfl); (case hr => first | (go_simp; done) | (go_simp; rfl)); intro g1 e1 w1 h1 k1)
    | ((with_reducible refine gate_dst (N := 5) rfl ?_); refine box_event ?hg (N := 5) ?hd (cs := lCells d) (t := 23) ?hr ?_; (case hd => rfl); (case hg => rfl); (case hr => first | (go_simp; done) | (go_simp; rfl)); intro g2 e2 w2 h2 k2)
    | ((with_reducible refine gate_dst (N := 6) rfl ?_); refine box_event ?hg (N := 6) ?hd (cs := zCells) (t := 39) ?hr ?_; (case hd => rfl); (case hg => rfl); (case hr => first | (go_simp; done) | (go_simp; rfl)); intro g3 e3 w3 h3 k3
       have M := Aside0.mk (SMid.start H.out.1 H.out.2 e1 h1 k1 e2 h2 k2 e3 h3 k3)
       have HW := Aside0.mk (below_step (below_step k1 k2) k3)
       obtain ⟨⟨a0_0, a1_0, a2_0, a3_0, a4_0, a5_0, a6_0, a7_0⟩, ⟨l0_0, l1_0, l2_0⟩, ⟨z0_0, z1_0, z2_0, z3_0, z4_0, z5_0, z6_0, z7_0⟩, f1_0, f3_0, n13, n12, n23⟩ := M.out.all
       clear h1 k1 h2 k2 h3 k3 e1 e2 e3))
  clear a0_0 a1_0 a2_0 a3_0 a4_0 a5_0 a6_0 a7_0 l0_0 l1_0 l2_0 z0_0 z1_0 z2_0 z3_0 z4_0 z5_0 z6_0 z7_0 f1_0 f3_0
  have hno := fun (w : World) => line_no (w := w) (d := d) (A6 := A6) (A7 := A7) (n6 := data.length) (c6 := c6) (n7 := d.fields.length) (c7 := c7) 10 HS.out
  dsimp only [sCells, lCells] at hno
  refine (hno _).mono ?_
  clear hno
  rintro e w6 ⟨rfl, hb6⟩
  have M6 := Aside0.mk (M.out.step hb6)
  have HW6 := Aside0.mk (below_step HW.out hb6)
  obtain ⟨z0_6, z1_6, z2_6, z3_6, z4_6, z5_6, z6_6, z7_6⟩ := M6.out.getz
  have f3_6 := M6.out.frozen3
  clear hb6
  go_wp2_with fail
  obtain ⟨q1, q2, q3, q4⟩ := M6.out.leaf
  refine bodyPost_ret (results_ct rfl _ _ g3 39 _ (0, 0) _ rfl q1 Tryd.underlying39 rfl (by kernel_rfl)) rfl ?_
  exact ⟨_, _, _, _, by rw [HE.out]; rfl, q2, q3, q4, fun h => absurd (HE.out.symm.trans h) (by decide), fun _ => (leafB (d := d) (vd := .slice A6 data.length c6) (vf := .slice A7 d.fields.length c7) M6.out.r HW6.out M6.out.g3w).2⟩

set_option maxHeartbeats 4000000 in
set_option maxRecDepth 100000 in
theorem step_7a {w0 w : World} {S : Nat → Prop} {d : Dc} {data : List Int} {vd vf : Value} (hB : Below w0.heap.size w0 w) (hr : SRows w w0.heap.size S d data vd vf) (hok : DInv d) (c : Int) (h0 : 0 ≤ c) (h1 : c ≤ 255) (he : d.e = 0) (hp : d.place = 7) (hc : c = 58) (hs : ¬ d.size ≥ d.byts) :
    Calls Tryd.prog 57 #[.agg (sCells d vd vf), .int .u8 c, .agg (lCells d)] w (SPost w0 w S d data c) := by
  obtain ⟨b0, b1, b2, b3, b4, b5, b6, b7, b8, b9, b10⟩ := placesB hp
  obtain ⟨o1, o2, o3, o4, o5, o6⟩ := rangesB hok.ok
  have HE : Aside0 (LB d { d with place := 8 } c) := ⟨line_bput he (by omega) (by omega) (by by_cases hs : d.size ≥ d.byts <;> simp [dStep, hp, rLine, hs, dNamed, dMore, hc]) (by by_cases hs : d.size ≥ d.byts <;> simp [dStep, hp, rLine, hs, dNamed, dMore, hc])⟩
  have HZ : Aside0 ((rLine { d with place := 8 } c).2 = 0) := ⟨by unfold rLine; split; exact absurd (by assumption) hs; split <;> rfl⟩
  have bc : (c == 58) = true := by exact beq_iff_eq.mpr (by assumption)
  have HL := Aside0.mk (rLine_f { d with place := 8 } (hok.ok.place 8) c (fun _ e => absurd e (by show ¬ (8 : Int) = 9; omega)) data d.ext d.flds)
  obtain ⟨A6, c6, rfl⟩ := Kd.R_slice hr.data
  obtain ⟨A7, c7, rfl⟩ := Kd.R_slice hr.fields
  have H := Aside0.mk (And.intro hB hr)
  unfold sCells lCells
  clear hB hr hok h0 h1 he hp hc hs
  go_enter Tryd.func57, Tryd.ntmps57
  go_wp2_with (first
    | ((with_reducible refine gate_dst (N := 3) rfl ?_); refine box_event ?hg (N := 3) ?hd (cs := sCells d (.slice A6 data.length c6) (.slice A7 d.fields.length c7)) (t := 39) ?hr ?_; (case hd => rfl); (case hg => rfl); (case hr => first | (go_simp; done) | (go_simp; rfl)); intro g1 e1 w1 h1 k1)
    | ((with_reducible refine gate_dst (N := 5) rfl ?_); refine box_event ?hg (N := 5) ?hd (cs := lCells d) (t := 23) ?hr ?_; (case hd => rfl); (case hg => rfl); (case hr => first | (go_simp; done) | (go_simp; rfl)); intro g2 e2 w2 h2 k2)
    | ((with_reducible refine gate_dst (N := 6) rfl ?_); refine box_event ?hg (N := 6) ?hd (cs := zCells) (t := 39) ?hr ?_; (case hd => rfl); (case hg => rfl); (case hr => first | (go_simp; done) | (go_simp; rfl)); intro g3 e3 w3 h3 k3
       have M := Aside0.mk (SMid.start H.out.1 H.out.2 e1 h1 k1 e2 h2 k2 e3 h3 k3)
       have HW := Aside0.mk (below_step (below_step k1 k2) k3)
       obtain ⟨⟨a0_0, a1_0, a2_0, a3_0, a4_0, a5_0, a6_0, a7_0⟩, ⟨l0_0, l1_0, l2_0⟩, ⟨z0_0, z1_0, z2_0, z3_0, z4_0, z5_0, z6_0, z7_0⟩, f1_0, f3_0, n13, n12, n23⟩ := M.out.all
       clear h1 k1 h2 k2 h3 k3 e1 e2 e3))
  have M5 := Aside0.mk (M.out.set (d' := { d with place := 8 }) 0 (.int .i64 8) rfl rfl rfl)
  clear a0_0 a1_0 a2_0 a3_0 a4_0 a5_0 a6_0 a7_0 l0_0 l1_0 l2_0 z0_0 z1_0 z2_0 z3_0 z4_0 z5_0 z6_0 z7_0 f1_0 f3_0
  have MP := Aside0.mk M5.out.apart
  refine (catchpitref08_line.calls 200000 _ _ _ _ _ _ (fun k => (S k ∨ w.heap.size ≤ k) ∧ k ≠ g3) _ data (fun k => (S k ∨ w.heap.size ≤ k) ∧ k ≠ g3) _ d.fields c _ _ _ _ _ _ _ _ _ _ _ _ w0 _ M5.out.below MP.out.1 MP.out.2 HL.out).mono ?_
  rintro e w5 ⟨v6, v7, rfl, r1, r2, r3, r4⟩
  obtain ⟨A8, c8, rfl⟩ := Kd.R_slice r1
  obtain ⟨A9, c9, rfl⟩ := Kd.R_slice r2
  obtain ⟨p1, p2, p3, p4⟩ := M5.out.lined (d2 := (rLine { d with place := 8 } c).1) r1 r2 r3 r4
  have g3w := M5.out.g3w
  have w0w := M5.out.w0w
  have HQ := Aside0.mk (And.intro p1 (And.intro p2 (And.intro p3 (And.intro p4 (And.intro g3w w0w)))))
  have y0 : w5.cell? ⟨g3, 0, none⟩ = some (.int .i64 0) := blk_cell p1 0
  have y1 : w5.cell? ⟨g3, 1, none⟩ = some (.int .u64 0) := blk_cell p1 1
  have y2 : w5.cell? ⟨g3, 2, none⟩ = some (.int .i64 0) := blk_cell p1 2
  have y3 : w5.cell? ⟨g3, 3, none⟩ = some (.int .i64 0) := blk_cell p1 3
  have y4 : w5.cell? ⟨g3, 4, none⟩ = some (.int .i64 0) := blk_cell p1 4
  have y5 : w5.cell? ⟨g3, 5, none⟩ = some (.string (⟨#[]⟩ : ByteArray)) := blk_cell p1 5
  have y6 : w5.cell? ⟨g3, 6, none⟩ = some (.slice none 0 0) := blk_cell p1 6
  have y7 : w5.cell? ⟨g3, 7, none⟩ = some (.slice none 0 0) := blk_cell p1 7
  have fz := blk_frozen p1
  clear r1 r2 r3 r4 p1 p2 p3 p4 MP g3w w0w
  go_wp2_with fail
  obtain ⟨q1, q2, q3, q4⟩ := leaf8 HQ.out.1 HQ.out.2.1 HQ.out.2.2.1 HQ.out.2.2.2.1 HQ.out.2.2.2.2.1 HQ.out.2.2.2.2.2
  refine bodyPost_ret (results_ct rfl _ _ g3 39 _ (0, 0) _ rfl q1 Tryd.underlying39 rfl (by kernel_rfl)) rfl ?_
  refine ⟨{ (rLine { d with place := 8 } c).1 with e := 0 }, data, _, _, ?_, ⟨q2.1, q2.2⟩, q3, q4, fun h => ?_, fun h => absurd (HE.out.1.trans HZ.out) h⟩
  · rw [HE.out.1]; rfl
  · have h2 := HE.out.2 (HE.out.1.symm.trans h)
    exact ⟨h2.1, by rw [h2.2]; exact (List.append_nil _).symm⟩

set_option maxHeartbeats 4000000 in
set_option maxRecDepth 100000 in
theorem step_7an {w0 w : World} {S : Nat → Prop} {d : Dc} {data : List Int} {vd vf : Value} (hB : Below w0.heap.size w0 w) (hr : SRows w w0.heap.size S d data vd vf) (hok : DInv d) (c : Int) (h0 : 0 ≤ c) (h1 : c ≤ 255) (he : d.e = 0) (hp : d.place = 7) (hc : c = 58) (hs : d.size ≥ d.byts) :
    Calls Tryd.prog 57 #[.agg (sCells d vd vf), .int .u8 c, .agg (lCells d)] w (SPost w0 w S d data c) := by
  obtain ⟨b0, b1, b2, b3, b4, b5, b6, b7, b8, b9, b10⟩ := placesB hp
  obtain ⟨o1, o2, o3, o4, o5, o6⟩ := rangesB hok.ok
  have HE : Aside0 ((bput d c).1.e = 5) := ⟨bput_no he (by omega) (by omega) (D := d) (by simp [dStep, hp, dNamed, dMore, hc, hs]) (by decide)⟩
  have bc : (c == 58) = true := by exact beq_iff_eq.mpr (by assumption)
  have HS : Aside0 (({ d with place := 8 } : Dc).size ≥ ({ d with place := 8 } : Dc).byts) := ⟨hs⟩
  obtain ⟨A6, c6, rfl⟩ := Kd.R_slice hr.data
  obtain ⟨A7, c7, rfl⟩ := Kd.R_slice hr.fields
  have H := Aside0.mk (And.intro hB hr)
  unfold sCells lCells
  clear hB hr hok h0 h1 he hp hc hs
  go_enter Tryd.func57, Tryd.ntmps57
  go_wp2_with (first
    | ((with_reducible refine gate_dst (N := 3) rfl ?_); refine box_event ?hg (N := 3) ?hd (cs := sCells d (.slice A6 data.length c6) (.slice A7 d.fields.length c7)) (t := 39) ?hr ?_; (case hd => rfl); (case hg => rfl); (case hr => first | (go_simp; done) | (go_simp; rfl)); intro g1 e1 w1 h1 k1)
    | ((with_reducible refine gate_dst (N := 5) rfl ?_); refine box_event ?hg (N := 5) ?hd (cs := lCells d) (t := 23) ?hr ?_; (case hd => rfl); (case hg => rfl); (case hr => first | (go_simp; done) | (go_simp; rfl)); intro g2 e2 w2 h2 k2)
    | ((with_reducible refine gate_dst (N := 6) rfl ?_); refine box_event ?hg (N := 6) ?hd (cs := zCells) (t := 39) ?hr ?_; (case hd => rfl); (case hg => rfl); (case hr => first | (go_simp; done) | (go_simp; rfl)); intro g3 e3 w3 h3 k3
       have M := Aside0.mk (SMid.start H.out.1 H.out.2 e1 h1 k1 e2 h2 k2 e3 h3 k3)
       have HW := Aside0.mk (below_step (below_step k1 k2) k3)
       obtain ⟨⟨a0_0, a1_0, a2_0, a3_0, a4_0, a5_0, a6_0, a7_0⟩, ⟨l0_0, l1_0, l2_0⟩, ⟨z0_0, z1_0, z2_0, z3_0, z4_0, z5_0, z6_0, z7_0⟩, f1_0, f3_0, n13, n12, n23⟩ := M.out.all
       clear h1 k1 h2 k2 h3 k3 e1 e2 e3))
  have M5 := Aside0.mk (M.out.set (d' := { d with place := 8 }) 0 (.int .i64 8) rfl rfl rfl)
  have HW5 := Aside0.mk (HW.out.setCell (p := ⟨g1, 0, none⟩) M.out.g1w (.int .i64 8))
  clear a0_0 a1_0 a2_0 a3_0 a4_0 a5_0 a6_0 a7_0 l0_0 l1_0 l2_0 z0_0 z1_0 z2_0 z3_0 z4_0 z5_0 z6_0 z7_0 f1_0 f3_0
  have hno := fun (w : World) => line_no (w := w) (d := { d with place := 8 }) (A6 := A6) (A7 := A7) (n6 := data.length) (c6 := c6) (n7 := d.fields.length) (c7 := c7) c HS.out
  dsimp only [sCells, lCells] at hno
  refine (hno _).mono ?_
  clear hno
  rintro e w6 ⟨rfl, hb6⟩
  have M6 := Aside0.mk (M5.out.step hb6)
  have HW6 := Aside0.mk (below_step HW5.out hb6)
  obtain ⟨z0_6, z1_6, z2_6, z3_6, z4_6, z5_6, z6_6, z7_6⟩ := M6.out.getz
  have f3_6 := M6.out.frozen3
  clear hb6
  go_wp2_with fail
  obtain ⟨q1, q2, q3, q4⟩ := M6.out.leaf
  refine bodyPost_ret (results_ct rfl _ _ g3 39 _ (0, 0) _ rfl q1 Tryd.underlying39 rfl (by kernel_rfl)) rfl ?_
  exact ⟨_, _, _, _, by rw [HE.out]; rfl, q2, q3, q4, fun h => absurd (HE.out.symm.trans h) (by decide), fun _ => (leafB (d := { d with place := 8 }) (vd := .slice A6 data.length c6) (vf := .slice A7 d.fields.length c7) M6.out.r HW6.out M6.out.g3w).2⟩

set_option maxHeartbeats 4000000 in
set_option maxRecDepth 100000 in
theorem step_7b {w0 w : World} {S : Nat → Prop} {d : Dc} {data : List Int} {vd vf : Value} (hB : Below w0.heap.size w0 w) (hr : SRows w w0.heap.size S d data vd vf) (hok : DInv d) (c : Int) (h0 : 0 ≤ c) (h1 : c ≤ 255) (he : d.e = 0) (hp : d.place = 7) (hc : c ≠ 58) (ht : tokenB c = false) :
    Calls Tryd.prog 57 #[.agg (sCells d vd vf), .int .u8 c, .agg (lCells d)] w (SPost w0 w S d data c) := by
  obtain ⟨b0, b1, b2, b3, b4, b5, b6, b7, b8, b9, b10⟩ := placesB hp
  obtain ⟨o1, o2, o3, o4, o5, o6⟩ := rangesB hok.ok
  have HE : Aside0 ((bput d c).1.e = 2) := ⟨bput_no he (by omega) (by omega) (D := d) (by simp [dStep, hp, dNamed, hc, ht]) (by decide)⟩
  have bc : (c == 58) = false := by exact beq_eq_false_iff_ne.mpr (by assumption)
  have HT : Aside0 (catchpitref02_Token.f 3 (one c) = some false) := ⟨by rw [Token_f _ (by simp [one_size]) 3 (by simp [one_size]), token_one c h0 h1, ht]⟩
  obtain ⟨A6, c6, rfl⟩ := Kd.R_slice hr.data
  obtain ⟨A7, c7, rfl⟩ := Kd.R_slice hr.fields
  have H := Aside0.mk (And.intro hB hr)
  unfold sCells lCells
  clear hB hr hok h0 h1 he hp hc ht
  go_enter Tryd.func57, Tryd.ntmps57
  go_wp2_with (first
    | ((with_reducible refine gate_dst (N := 3) rfl ?_); refine box_event ?hg (N := 3) ?hd (cs := sCells d (.slice A6 data.length c6) (.slice A7 d.fields.length c7)) (t := 39) ?hr ?_; (case hd => rfl); (case hg => rfl); (case hr => first | (go_simp; done) | (go_simp; rfl)); intro g1 e1 w1 h1 k1)
    | ((with_reducible refine gate_dst (N := 5) rfl ?_); refine box_event ?hg (N := 5) ?hd (cs := lCells d) (t := 23) ?hr ?_; (case hd => rfl); (case hg => rfl); (case hr => first | (go_simp; done) | (go_simp; rfl)); intro g2 e2 w2 h2 k2)
    | ((with_reducible refine gate_dst (N := 6) rfl ?_); refine box_event ?hg (N := 6) ?hd (cs := zCells) (t := 39) ?hr ?_; (case hd => rfl); (case hg => rfl); (case hr => first | (go_simp; done) | (go_simp; rfl)); intro g3 e3 w3 h3 k3
       have M := Aside0.mk (SMid.start H.out.1 H.out.2 e1 h1 k1 e2 h2 k2 e3 h3 k3)
       have HW := Aside0.mk (below_step (below_step k1 k2) k3)
       obtain ⟨⟨a0_0, a1_0, a2_0, a3_0, a4_0, a5_0, a6_0, a7_0⟩, ⟨l0_0, l1_0, l2_0⟩, ⟨z0_0, z1_0, z2_0, z3_0, z4_0, z5_0, z6_0, z7_0⟩, f1_0, f3_0, n13, n12, n23⟩ := M.out.all
       have hcv := conv_one w3 c
       clear h1 k1 h2 k2 h3 k3 e1 e2 e3))
  have MB := Aside0.mk (M.out.step ((Below.refl _ _).alloc (Nat.le_refl _) (.cells #[.int .u8 c] 5)))
  have HWB := Aside0.mk (below_step HW.out ((Below.refl _ _).alloc (Nat.le_refl _) (.cells #[.int .u8 c] 5)))
  refine (catchpitref02_Token.calls 3 (one c) false _ HT.out).mono ?_
  rintro e w4 ⟨rfl, hd⟩
  clear hcv
  have M4 := Aside0.mk (MB.out.step (Drawn0.below hd))
  have HW4 := Aside0.mk (below_step HWB.out (Drawn0.below hd))
  clear a0_0 a1_0 a2_0 a3_0 a4_0 a5_0 a6_0 a7_0 l0_0 l1_0 l2_0 z0_0 z1_0 z2_0 z3_0 z4_0 z5_0 z6_0 z7_0 f1_0 f3_0
  obtain ⟨⟨a0_4, a1_4, a2_4, a3_4, a4_4, a5_4, a6_4, a7_4⟩, ⟨l0_4, l1_4, l2_4⟩, ⟨z0_4, z1_4, z2_4, z3_4, z4_4, z5_4, z6_4, z7_4⟩, f1_4, f3_4, -, -, -⟩ := M4.out.all
  clear hd
  go_wp2_with fail
  obtain ⟨q1, q2, q3, q4⟩ := M4.out.leaf
  refine bodyPost_ret (results_ct rfl _ _ g3 39 _ (0, 0) _ rfl q1 Tryd.underlying39 rfl (by kernel_rfl)) rfl ?_
  exact ⟨_, _, _, _, by rw [HE.out]; rfl, q2, q3, q4, fun h => absurd (HE.out.symm.trans h) (by decide), fun _ => (leafB (d := d) (vd := .slice A6 data.length c6) (vf := .slice A7 d.fields.length c7) M4.out.r HW4.out M4.out.g3w).2⟩

set_option maxHeartbeats 4000000 in
set_option maxRecDepth 100000 in
theorem step_7c {w0 w : World} {S : Nat → Prop} {d : Dc} {data : List Int} {vd vf : Value} (hB : Below w0.heap.size w0 w) (hr : SRows w w0.heap.size S d data vd vf) (hok : DInv d) (c : Int) (h0 : 0 ≤ c) (h1 : c ≤ 255) (he : d.e = 0) (hp : d.place = 7) (hc : c ≠ 58) (ht : tokenB c = true) (hs : ¬ d.size ≥ d.byts) :
    Calls Tryd.prog 57 #[.agg (sCells d vd vf), .int .u8 c, .agg (lCells d)] w (SPost w0 w S d data c) := by
  obtain ⟨b0, b1, b2, b3, b4, b5, b6, b7, b8, b9, b10⟩ := placesB hp
  obtain ⟨o1, o2, o3, o4, o5, o6⟩ := rangesB hok.ok
  have hc10 : c ≠ 10 := by rintro rfl; exact absurd ht (by decide)
  have HE : Aside0 (LB d d c) := ⟨line_bput he (by omega) (by omega) (by by_cases hs : d.size ≥ d.byts <;> simp [dStep, hp, rLine, hs, dNamed, dMore, hc, ht, hc10]) (by by_cases hs : d.size ≥ d.byts <;> simp [dStep, hp, rLine, hs, dNamed, dMore, hc, ht, hc10])⟩
  have HZ : Aside0 ((rLine d c).2 = 0) := ⟨by unfold rLine; split; exact absurd (by assumption) hs; split <;> rfl⟩
  have bc : (c == 58) = false := by exact beq_eq_false_iff_ne.mpr (by assumption)
  have HT : Aside0 (catchpitref02_Token.f 3 (one c) = some true) := ⟨by rw [Token_f _ (by simp [one_size]) 3 (by simp [one_size]), token_one c h0 h1, ht]⟩
  have HL := Aside0.mk (rLine_f d hok.ok c (fun _ => hok.l9) data d.ext d.flds)
  clear hc10
  obtain ⟨A6, c6, rfl⟩ := Kd.R_slice hr.data
  obtain ⟨A7, c7, rfl⟩ := Kd.R_slice hr.fields
  have H := Aside0.mk (And.intro hB hr)
  unfold sCells lCells
  clear hB hr hok h0 h1 he hp hc ht hs
  go_enter Tryd.func57, Tryd.ntmps57
  go_wp2_with (first
    | ((with_reducible refine gate_dst (N := 3) rfl ?_); refine box_event ?hg (N := 3) ?hd (cs := sCells d (.slice A6 data.length c6) (.slice A7 d.fields.length c7)) (t := 39) ?hr ?_; (case hd => rfl); (case hg => rfl); (case hr => first | (go_simp; done) | (go_simp; rfl)); intro g1 e1 w1 h1 k1)
    | ((with_reducible refine gate_dst (N := 5) rfl ?_); refine box_event ?hg (N := 5) ?hd (cs := lCells d) (t := 23) ?hr ?_; (case hd => rfl); (case hg => rfl); (case hr => first | (go_simp; done) | (go_simp; rfl)); intro g2 e2 w2 h2 k2)
    | ((with_reducible refine gate_dst (N := 6) rfl ?_); refine box_event ?hg (N := 6) ?hd (cs := zCells) (t := 39) ?hr ?_; (case hd => rfl); (case hg => rfl); (case hr => first | (go_simp; done) | (go_simp; rfl)); intro g3 e3 w3 h3 k3
       have M := Aside0.mk (SMid.start H.out.1 H.out.2 e1 h1 k1 e2 h2 k2 e3 h3 k3)
       have HW := Aside0.mk (below_step (below_step k1 k2) k3)
       obtain ⟨⟨a0_0, a1_0, a2_0, a3_0, a4_0, a5_0, a6_0, a7_0⟩, ⟨l0_0, l1_0, l2_0⟩, ⟨z0_0, z1_0, z2_0, z3_0, z4_0, z5_0, z6_0, z7_0⟩, f1_0, f3_0, n13, n12, n23⟩ := M.out.all
       have hcv := conv_one w3 c
       clear h1 k1 h2 k2 h3 k3 e1 e2 e3))
  have MB := Aside0.mk (M.out.step ((Below.refl _ _).alloc (Nat.le_refl _) (.cells #[.int .u8 c] 5)))
  have HWB := Aside0.mk (below_step HW.out ((Below.refl _ _).alloc (Nat.le_refl _) (.cells #[.int .u8 c] 5)))
  refine (catchpitref02_Token.calls 3 (one c) true _ HT.out).mono ?_
  rintro e w4 ⟨rfl, hd⟩
  clear hcv
  have M4 := Aside0.mk (MB.out.step (Drawn0.below hd))
  have HW4 := Aside0.mk (below_step HWB.out (Drawn0.below hd))
  clear a0_0 a1_0 a2_0 a3_0 a4_0 a5_0 a6_0 a7_0 l0_0 l1_0 l2_0 z0_0 z1_0 z2_0 z3_0 z4_0 z5_0 z6_0 z7_0 f1_0 f3_0
  obtain ⟨⟨a0_4, a1_4, a2_4, a3_4, a4_4, a5_4, a6_4, a7_4⟩, ⟨l0_4, l1_4, l2_4⟩, ⟨z0_4, z1_4, z2_4, z3_4, z4_4, z5_4, z6_4, z7_4⟩, f1_4, f3_4, -, -, -⟩ := M4.out.all
  clear hd
  go_wp2_with fail
  clear a0_4 a1_4 a2_4 a3_4 a4_4 a5_4 a6_4 a7_4 l0_4 l1_4 l2_4 z0_4 z1_4 z2_4 z3_4 z4_4 z5_4 z6_4 z7_4 f1_4 f3_4
  have MP := Aside0.mk M4.out.apart
  refine (catchpitref08_line.calls 200000 _ _ _ _ _ _ (fun k => (S k ∨ w.heap.size ≤ k) ∧ k ≠ g3) _ data (fun k => (S k ∨ w.heap.size ≤ k) ∧ k ≠ g3) _ d.fields c _ _ _ _ _ _ _ _ _ _ _ _ w0 _ M4.out.below MP.out.1 MP.out.2 HL.out).mono ?_
  rintro e w5 ⟨v6, v7, rfl, r1, r2, r3, r4⟩
  obtain ⟨A8, c8, rfl⟩ := Kd.R_slice r1
  obtain ⟨A9, c9, rfl⟩ := Kd.R_slice r2
  obtain ⟨p1, p2, p3, p4⟩ := M4.out.lined (d2 := (rLine d c).1) r1 r2 r3 r4
  have g3w := M4.out.g3w
  have w0w := M4.out.w0w
  have HQ := Aside0.mk (And.intro p1 (And.intro p2 (And.intro p3 (And.intro p4 (And.intro g3w w0w)))))
  have y0 : w5.cell? ⟨g3, 0, none⟩ = some (.int .i64 0) := blk_cell p1 0
  have y1 : w5.cell? ⟨g3, 1, none⟩ = some (.int .u64 0) := blk_cell p1 1
  have y2 : w5.cell? ⟨g3, 2, none⟩ = some (.int .i64 0) := blk_cell p1 2
  have y3 : w5.cell? ⟨g3, 3, none⟩ = some (.int .i64 0) := blk_cell p1 3
  have y4 : w5.cell? ⟨g3, 4, none⟩ = some (.int .i64 0) := blk_cell p1 4
  have y5 : w5.cell? ⟨g3, 5, none⟩ = some (.string (⟨#[]⟩ : ByteArray)) := blk_cell p1 5
  have y6 : w5.cell? ⟨g3, 6, none⟩ = some (.slice none 0 0) := blk_cell p1 6
  have y7 : w5.cell? ⟨g3, 7, none⟩ = some (.slice none 0 0) := blk_cell p1 7
  have fz := blk_frozen p1
  clear r1 r2 r3 r4 p1 p2 p3 p4 MP g3w w0w
  go_wp2_with fail
  obtain ⟨q1, q2, q3, q4⟩ := leaf8 HQ.out.1 HQ.out.2.1 HQ.out.2.2.1 HQ.out.2.2.2.1 HQ.out.2.2.2.2.1 HQ.out.2.2.2.2.2
  refine bodyPost_ret (results_ct rfl _ _ g3 39 _ (0, 0) _ rfl q1 Tryd.underlying39 rfl (by kernel_rfl)) rfl ?_
  refine ⟨{ (rLine d c).1 with e := 0 }, data, _, _, ?_, ⟨q2.1, q2.2⟩, q3, q4, fun h => ?_, fun h => absurd (HE.out.1.trans HZ.out) h⟩
  · rw [HE.out.1]; rfl
  · have h2 := HE.out.2 (HE.out.1.symm.trans h)
    exact ⟨h2.1, by rw [h2.2]; exact (List.append_nil _).symm⟩

set_option maxHeartbeats 4000000 in
set_option maxRecDepth 100000 in
theorem step_7cn {w0 w : World} {S : Nat → Prop} {d : Dc} {data : List Int} {vd vf : Value} (hB : Below w0.heap.size w0 w) (hr : SRows w w0.heap.size S d data vd vf) (hok : DInv d) (c : Int) (h0 : 0 ≤ c) (h1 : c ≤ 255) (he : d.e = 0) (hp : d.place = 7) (hc : c ≠ 58) (ht : tokenB c = true) (hs : d.size ≥ d.byts) :
    Calls Tryd.prog 57 #[.agg (sCells d vd vf), .int .u8 c, .agg (lCells d)] w (SPost w0 w S d data c) := by
  obtain ⟨b0, b1, b2, b3, b4, b5, b6, b7, b8, b9, b10⟩ := placesB hp
  obtain ⟨o1, o2, o3, o4, o5, o6⟩ := rangesB hok.ok
  have HE : Aside0 ((bput d c).1.e = 5) := ⟨bput_no he (by omega) (by omega) (D := d) (by simp [dStep, hp, dNamed, dMore, hc, ht, hs]) (by decide)⟩
  have bc : (c == 58) = false := by exact beq_eq_false_iff_ne.mpr (by assumption)
  have HT : Aside0 (catchpitref02_Token.f 3 (one c) = some true) := ⟨by rw [Token_f _ (by simp [one_size]) 3 (by simp [one_size]), token_one c h0 h1, ht]⟩
  have HS : Aside0 ((d : Dc).size ≥ (d : Dc).byts) := ⟨hs⟩
  obtain ⟨A6, c6, rfl⟩ := Kd.R_slice hr.data
  obtain ⟨A7, c7, rfl⟩ := Kd.R_slice hr.fields
  have H := Aside0.mk (And.intro hB hr)
  unfold sCells lCells
  clear hB hr hok h0 h1 he hp hc ht hs
  go_enter Tryd.func57, Tryd.ntmps57
  go_wp2_with (first
    | ((with_reducible refine gate_dst (N := 3) rfl ?_); refine box_event ?hg (N := 3) ?hd (cs := sCells d (.slice A6 data.length c6) (.slice A7 d.fields.length c7)) (t := 39) ?hr ?_; (case hd => rfl); (case hg => rfl); (case hr => first | (go_simp; done) | (go_simp; rfl)); intro g1 e1 w1 h1 k1)
    | ((with_reducible refine gate_dst (N := 5) rfl ?_); refine box_event ?hg (N := 5) ?hd (cs := lCells d) (t := 23) ?hr ?_; (case hd => rfl); (case hg => rfl); (case hr => first | (go_simp; done) | (go_simp; rfl)); intro g2 e2 w2 h2 k2)
    | ((with_reducible refine gate_dst (N := 6) rfl ?_); refine box_event ?hg (N := 6) ?hd (cs := zCells) (t := 39) ?hr ?_; (case hd => rfl); (case hg => rfl); (case hr => first | (go_simp; done) | (go_simp; rfl)); intro g3 e3 w3 h3 k3
       have M := Aside0.mk (SMid.start H.out.1 H.out.2 e1 h1 k1 e2 h2 k2 e3 h3 k3)
       have HW := Aside0.mk (below_step (below_step k1 k2) k3)
       obtain ⟨⟨a0_0, a1_0, a2_0, a3_0, a4_0, a5_0, a6_0, a7_0⟩, ⟨l0_0, l1_0, l2_0⟩, ⟨z0_0, z1_0, z2_0, z3_0, z4_0, z5_0, z6_0, z7_0⟩, f1_0, f3_0, n13, n12, n23⟩ := M.out.all
       have hcv := conv_one w3 c
       clear h1 k1 h2 k2 h3 k3 e1 e2 e3))
  have MB := Aside0.mk (M.out.step ((Below.refl _ _).alloc (Nat.le_refl _) (.cells #[.int .u8 c] 5)))
  have HWB := Aside0.mk (below_step HW.out ((Below.refl _ _).alloc (Nat.le_refl _) (.cells #[.int .u8 c] 5)))
  refine (catchpitref02_Token.calls 3 (one c) true _ HT.out).mono ?_
  rintro e w4 ⟨rfl, hd⟩
  clear hcv
  have M4 := Aside0.mk (MB.out.step (Drawn0.below hd))
  have HW4 := Aside0.mk (below_step HWB.out (Drawn0.below hd))
  clear a0_0 a1_0 a2_0 a3_0 a4_0 a5_0 a6_0 a7_0 l0_0 l1_0 l2_0 z0_0 z1_0 z2_0 z3_0 z4_0 z5_0 z6_0 z7_0 f1_0 f3_0
  obtain ⟨⟨a0_4, a1_4, a2_4, a3_4, a4_4, a5_4, a6_4, a7_4⟩, ⟨l0_4, l1_4, l2_4⟩, ⟨z0_4, z1_4, z2_4, z3_4, z4_4, z5_4, z6_4, z7_4⟩, f1_4, f3_4, -, -, -⟩ := M4.out.all
  clear hd
  go_wp2_with fail
  clear a0_4 a1_4 a2_4 a3_4 a4_4 a5_4 a6_4 a7_4 l0_4 l1_4 l2_4 z0_4 z1_4 z2_4 z3_4 z4_4 z5_4 z6_4 z7_4 f1_4 f3_4
  have hno := fun (w : World) => line_no (w := w) (d := d) (A6 := A6) (A7 := A7) (n6 := data.length) (c6 := c6) (n7 := d.fields.length) (c7 := c7) c HS.out
  dsimp only [sCells, lCells] at hno
  refine (hno _).mono ?_
  clear hno
  rintro e w6 ⟨rfl, hb6⟩
  have M6 := Aside0.mk (M4.out.step hb6)
  have HW6 := Aside0.mk (below_step HW4.out hb6)
  obtain ⟨z0_6, z1_6, z2_6, z3_6, z4_6, z5_6, z6_6, z7_6⟩ := M6.out.getz
  have f3_6 := M6.out.frozen3
  clear hb6
  go_wp2_with fail
  obtain ⟨q1, q2, q3, q4⟩ := M6.out.leaf
  refine bodyPost_ret (results_ct rfl _ _ g3 39 _ (0, 0) _ rfl q1 Tryd.underlying39 rfl (by kernel_rfl)) rfl ?_
  exact ⟨_, _, _, _, by rw [HE.out]; rfl, q2, q3, q4, fun h => absurd (HE.out.symm.trans h) (by decide), fun _ => (leafB (d := d) (vd := .slice A6 data.length c6) (vf := .slice A7 d.fields.length c7) M6.out.r HW6.out M6.out.g3w).2⟩

set_option maxHeartbeats 4000000 in
set_option maxRecDepth 100000 in
theorem step_8a {w0 w : World} {S : Nat → Prop} {d : Dc} {data : List Int} {vd vf : Value} (hB : Below w0.heap.size w0 w) (hr : SRows w w0.heap.size S d data vd vf) (hok : DInv d) (c : Int) (h0 : 0 ≤ c) (h1 : c ≤ 255) (he : d.e = 0) (hp : d.place = 8) (hc : c = 13) (hs : ¬ d.size ≥ d.byts) :
    Calls Tryd.prog 57 #[.agg (sCells d vd vf), .int .u8 c, .agg (lCells d)] w (SPost w0 w S d data c) := by
  obtain ⟨b0, b1, b2, b3, b4, b5, b6, b7, b8, b9, b10⟩ := placesB hp
  obtain ⟨o1, o2, o3, o4, o5, o6⟩ := rangesB hok.ok
  have hc10 : c ≠ 10 := by omega
  have HE : Aside0 (LB d { d with place := 9 } c) := ⟨line_bput he (by omega) (by omega) (by by_cases hs : d.size ≥ d.byts <;> simp [dStep, hp, rLine, hs, dValued, dMore, hc]) (by by_cases hs : d.size ≥ d.byts <;> simp [dStep, hp, rLine, hs, dValued, dMore, hc])⟩
  have HZ : Aside0 ((rLine { d with place := 9 } c).2 = 0) := ⟨by unfold rLine; split; exact absurd (by assumption) hs; split <;> rfl⟩
  have bc : (c == 13) = true := by exact beq_iff_eq.mpr (by assumption)
  have HL := Aside0.mk (rLine_f { d with place := 9 } (hok.ok.place 9) c (fun e => absurd e hc10) data d.ext d.flds)
  clear hc10
  obtain ⟨A6, c6, rfl⟩ := Kd.R_slice hr.data
  obtain ⟨A7, c7, rfl⟩ := Kd.R_slice hr.fields
  have H := Aside0.mk (And.intro hB hr)
  unfold sCells lCells
  clear hB hr hok h0 h1 he hp hc hs
  go_enter Tryd.func57, Tryd.ntmps57
  go_wp2_with (first
    | ((with_reducible refine gate_dst (N := 3) rfl ?_); refine box_event ?hg (N := 3) ?hd (cs := sCells d (.slice A6 data.length c6) (.slice A7 d.fields.length c7)) (t := 39) ?hr ?_; (case hd => rfl); (case hg => rfl); (case hr => first | (go_simp; done) | (go_simp; rfl)); intro g1 e1 w1 h1 k1)
    | ((with_reducible refine gate_dst (N := 5) rfl ?_); refine box_event ?hg (N := 5) ?hd (cs := lCells d) (t := 23) ?hr ?_; (case hd => rfl); (case hg => rfl); (case hr => first | (go_simp; done) | (go_simp; rfl)); intro g2 e2 w2 h2 k2)
    | ((with_reducible refine gate_dst (N := 6) rfl ?_); refine box_event ?hg (N := 6) ?hd (cs := zCells) (t := 39) ?hr ?_; (case hd => rfl); (case hg => rfl); (case hr => first | (go_simp; done) | (go_simp; rfl)); intro g3 e3 w3 h3 k3
       have M := Aside0.mk (SMid.start H.out.1 H.out.2 e1 h1 k1 e2 h2 k2 e3 h3 k3)
       have HW := Aside0.mk (below_step (below_step k1 k2) k3)
       obtain ⟨⟨a0_0, a1_0, a2_0, a3_0, a4_0, a5_0, a6_0, a7_0⟩, ⟨l0_0, l1_0, l2_0⟩, ⟨z0_0, z1_0, z2_0, z3_0, z4_0, z5_0, z6_0, z7_0⟩, f1_0, f3_0, n13, n12, n23⟩ := M.out.all
       clear h1 k1 h2 k2 h3 k3 e1 e2 e3))
  have M5 := Aside0.mk (M.out.set (d' := { d with place := 9 }) 0 (.int .i64 9) rfl rfl rfl)
  clear a0_0 a1_0 a2_0 a3_0 a4_0 a5_0 a6_0 a7_0 l0_0 l1_0 l2_0 z0_0 z1_0 z2_0 z3_0 z4_0 z5_0 z6_0 z7_0 f1_0 f3_0
  have MP := Aside0.mk M5.out.apart
  refine (catchpitref08_line.calls 200000 _ _ _ _ _ _ (fun k => (S k ∨ w.heap.size ≤ k) ∧ k ≠ g3) _ data (fun k => (S k ∨ w.heap.size ≤ k) ∧ k ≠ g3) _ d.fields c _ _ _ _ _ _ _ _ _ _ _ _ w0 _ M5.out.below MP.out.1 MP.out.2 HL.out).mono ?_
  rintro e w5 ⟨v6, v7, rfl, r1, r2, r3, r4⟩
  obtain ⟨A8, c8, rfl⟩ := Kd.R_slice r1
  obtain ⟨A9, c9, rfl⟩ := Kd.R_slice r2
  obtain ⟨p1, p2, p3, p4⟩ := M5.out.lined (d2 := (rLine { d with place := 9 } c).1) r1 r2 r3 r4
  have g3w := M5.out.g3w
  have w0w := M5.out.w0w
  have HQ := Aside0.mk (And.intro p1 (And.intro p2 (And.intro p3 (And.intro p4 (And.intro g3w w0w)))))
  have y0 : w5.cell? ⟨g3, 0, none⟩ = some (.int .i64 0) := blk_cell p1 0
  have y1 : w5.cell? ⟨g3, 1, none⟩ = some (.int .u64 0) := blk_cell p1 1
  have y2 : w5.cell? ⟨g3, 2, none⟩ = some (.int .i64 0) := blk_cell p1 2
  have y3 : w5.cell? ⟨g3, 3, none⟩ = some (.int .i64 0) := blk_cell p1 3
  have y4 : w5.cell? ⟨g3, 4, none⟩ = some (.int .i64 0) := blk_cell p1 4
  have y5 : w5.cell? ⟨g3, 5, none⟩ = some (.string (⟨#[]⟩ : ByteArray)) := blk_cell p1 5
  have y6 : w5.cell? ⟨g3, 6, none⟩ = some (.slice none 0 0) := blk_cell p1 6
  have y7 : w5.cell? ⟨g3, 7, none⟩ = some (.slice none 0 0) := blk_cell p1 7
  have fz := blk_frozen p1
  clear r1 r2 r3 r4 p1 p2 p3 p4 MP g3w w0w
  go_wp2_with fail
  obtain ⟨q1, q2, q3, q4⟩ := leaf8 HQ.out.1 HQ.out.2.1 HQ.out.2.2.1 HQ.out.2.2.2.1 HQ.out.2.2.2.2.1 HQ.out.2.2.2.2.2
  refine bodyPost_ret (results_ct rfl _ _ g3 39 _ (0, 0) _ rfl q1 Tryd.underlying39 rfl (by kernel_rfl)) rfl ?_
  refine ⟨{ (rLine { d with place := 9 } c).1 with e := 0 }, data, _, _, ?_, ⟨q2.1, q2.2⟩, q3, q4, fun h => ?_, fun h => absurd (HE.out.1.trans HZ.out) h⟩
  · rw [HE.out.1]; rfl
  · have h2 := HE.out.2 (HE.out.1.symm.trans h)
    exact ⟨h2.1, by rw [h2.2]; exact (List.append_nil _).symm⟩

set_option maxHeartbeats 4000000 in
set_option maxRecDepth 100000 in
theorem step_8an {w0 w : World} {S : Nat → Prop} {d : Dc} {data : List Int} {vd vf : Value} (hB : Below w0.heap.size w0 w) (hr : SRows w w0.heap.size S d data vd vf) (hok : DInv d) (c : Int) (h0 : 0 ≤ c) (h1 : c ≤ 255) (he : d.e = 0) (hp : d.place = 8) (hc : c = 13) (hs : d.size ≥ d.byts) :
    Calls Tryd.prog 57 #[.agg (sCells d vd vf), .int .u8 c, .agg (lCells d)] w (SPost w0 w S d data c) := by
  obtain ⟨b0, b1, b2, b3, b4, b5, b6, b7, b8, b9, b10⟩ := placesB hp
  obtain ⟨o1, o2, o3, o4, o5, o6⟩ := rangesB hok.ok
  have HE : Aside0 ((bput d c).1.e = 5) := ⟨bput_no he (by omega) (by omega) (D := d) (by simp [dStep, hp, dValued, dMore, hc, hs]) (by decide)⟩
  have bc : (c == 13) = true := by exact beq_iff_eq.mpr (by assumption)
  have HS : Aside0 (({ d with place := 9 } : Dc).size ≥ ({ d with place := 9 } : Dc).byts) := ⟨hs⟩
  obtain ⟨A6, c6, rfl⟩ := Kd.R_slice hr.data
  obtain ⟨A7, c7, rfl⟩ := Kd.R_slice hr.fields
  have H := Aside0.mk (And.intro hB hr)
  unfold sCells lCells
  clear hB hr hok h0 h1 he hp hc hs
  go_enter Tryd.func57, Tryd.ntmps57
  go_wp2_with (first
    | ((with_reducible refine gate_dst (N := 3) rfl ?_); refine box_event ?hg (N := 3) ?hd (cs := sCells d (.slice A6 data.length c6) (.slice A7 d.fields.length c7)) (t := 39) ?hr ?_; (case hd => rfl); (case hg => rfl); (case hr => first | (go_simp; done) | (go_simp; rfl)); intro g1 e1 w1 h1 k1)
    | ((with_reducible refine gate_dst (N := 5) rfl ?_); refine box_event ?hg (N := 5) ?hd (cs := lCells d) (t := 23) ?hr ?_; (case hd => rfl); (case hg => rfl); (case hr => first | (go_simp; done) | (go_simp; rfl)); intro g2 e2 w2 h2 k2)
    | ((with_reducible refine gate_dst (N := 6) rfl ?_); refine box_event ?hg (N := 6) ?hd (cs := zCells) (t := 39) ?hr ?_; (case hd => rfl); (case hg => rfl); (case hr => first | (go_simp; done) | (go_simp; rfl)); intro g3 e3 w3 h3 k3
       have M := Aside0.mk (SMid.start H.out.1 H.out.2 e1 h1 k1 e2 h2 k2 e3 h3 k3)
       have HW := Aside0.mk (below_step (below_step k1 k2) k3)
       obtain ⟨⟨a0_0, a1_0, a2_0, a3_0, a4_0, a5_0, a6_0, a7_0⟩, ⟨l0_0, l1_0, l2_0⟩, ⟨z0_0, z1_0, z2_0, z3_0, z4_0, z5_0, z6_0, z7_0⟩, f1_0, f3_0, n13, n12, n23⟩ := M.out.all
       clear h1 k1 h2 k2 h3 k3 e1 e2 e3))
  have M5 := Aside0.mk (M.out.set (d' := { d with place := 9 }) 0 (.int .i64 9) rfl rfl rfl)
  have HW5 := Aside0.mk (HW.out.setCell (p := ⟨g1, 0, none⟩) M.out.g1w (.int .i64 9))
  clear a0_0 a1_0 a2_0 a3_0 a4_0 a5_0 a6_0 a7_0 l0_0 l1_0 l2_0 z0_0 z1_0 z2_0 z3_0 z4_0 z5_0 z6_0 z7_0 f1_0 f3_0
  have hno := fun (w : World) => line_no (w := w) (d := { d with place := 9 }) (A6 := A6) (A7 := A7) (n6 := data.length) (c6 := c6) (n7 := d.fields.length) (c7 := c7) c HS.out
  dsimp only [sCells, lCells] at hno
  refine (hno _).mono ?_
  clear hno
  rintro e w6 ⟨rfl, hb6⟩
  have M6 := Aside0.mk (M5.out.step hb6)
  have HW6 := Aside0.mk (below_step HW5.out hb6)
  obtain ⟨z0_6, z1_6, z2_6, z3_6, z4_6, z5_6, z6_6, z7_6⟩ := M6.out.getz
  have f3_6 := M6.out.frozen3
  clear hb6
  go_wp2_with fail
  obtain ⟨q1, q2, q3, q4⟩ := M6.out.leaf
  refine bodyPost_ret (results_ct rfl _ _ g3 39 _ (0, 0) _ rfl q1 Tryd.underlying39 rfl (by kernel_rfl)) rfl ?_
  exact ⟨_, _, _, _, by rw [HE.out]; rfl, q2, q3, q4, fun h => absurd (HE.out.symm.trans h) (by decide), fun _ => (leafB (d := { d with place := 9 }) (vd := .slice A6 data.length c6) (vf := .slice A7 d.fields.length c7) M6.out.r HW6.out M6.out.g3w).2⟩

set_option maxHeartbeats 4000000 in
set_option maxRecDepth 100000 in
theorem step_8b {w0 w : World} {S : Nat → Prop} {d : Dc} {data : List Int} {vd vf : Value} (hB : Below w0.heap.size w0 w) (hr : SRows w w0.heap.size S d data vd vf) (hok : DInv d) (c : Int) (h0 : 0 ≤ c) (h1 : c ≤ 255) (he : d.e = 0) (hp : d.place = 8) (hc : c ≠ 13) (ht : textB c = false) :
    Calls Tryd.prog 57 #[.agg (sCells d vd vf), .int .u8 c, .agg (lCells d)] w (SPost w0 w S d data c) := by
  obtain ⟨b0, b1, b2, b3, b4, b5, b6, b7, b8, b9, b10⟩ := placesB hp
  obtain ⟨o1, o2, o3, o4, o5, o6⟩ := rangesB hok.ok
  have HE : Aside0 ((bput d c).1.e = 2) := ⟨bput_no he (by omega) (by omega) (D := d) (by simp [dStep, hp, dValued, hc, ht]) (by decide)⟩
  have bc : (c == 13) = false := by exact beq_eq_false_iff_ne.mpr (by assumption)
  have HT : Aside0 (catchpitref02_Byte.f c = some false) := ⟨by rw [byte_f c h0 h1, ht]⟩
  obtain ⟨A6, c6, rfl⟩ := Kd.R_slice hr.data
  obtain ⟨A7, c7, rfl⟩ := Kd.R_slice hr.fields
  have H := Aside0.mk (And.intro hB hr)
  unfold sCells lCells
  clear hB hr hok h0 h1 he hp hc ht
  go_enter Tryd.func57, Tryd.ntmps57
  go_wp2_with (first
    | ((with_reducible refine gate_dst (N := 3) rfl ?_); refine box_event ?hg (N := 3) ?hd (cs := sCells d (.slice A6 data.length c6) (.slice A7 d.fields.length c7)) (t := 39) ?hr ?_; (case hd => rfl); (case hg => rfl); (case hr => first | (go_simp; done) | (go_simp; rfl)); intro g1 e1 w1 h1 k1)
    | ((with_reducible refine gate_dst (N := 5) rfl ?_); refine box_event ?hg (N := 5) ?hd (cs := lCells d) (t := 23) ?hr ?_; (case hd => rfl); (case hg => rfl); (case hr => first | (go_simp; done) | (go_simp; rfl)); intro g2 e2 w2 h2 k2)
    | ((with_reducible refine gate_dst (N := 6) rfl ?_); refine box_event ?hg (N := 6) ?hd (cs := zCells) (t := 39) ?hr ?_; (case hd => rfl); (case hg => rfl); (case hr => first | (go_simp; done) | (go_simp; rfl)); intro g3 e3 w3 h3 k3
       have M := Aside0.mk (SMid.start H.out.1 H.out.2 e1 h1 k1 e2 h2 k2 e3 h3 k3)
       have HW := Aside0.mk (below_step (below_step k1 k2) k3)
       obtain ⟨⟨a0_0, a1_0, a2_0, a3_0, a4_0, a5_0, a6_0, a7_0⟩, ⟨l0_0, l1_0, l2_0⟩, ⟨z0_0, z1_0, z2_0, z3_0, z4_0, z5_0, z6_0, z7_0⟩, f1_0, f3_0, n13, n12, n23⟩ := M.out.all
       clear h1 k1 h2 k2 h3 k3 e1 e2 e3))
  refine (catchpitref02_Byte.calls c false _ HT.out).mono ?_
  rintro e w4 ⟨rfl, hd⟩
  have M4 := Aside0.mk (M.out.step (Drawn0.below hd))
  have HW4 := Aside0.mk (below_step HW.out (Drawn0.below hd))
  clear a0_0 a1_0 a2_0 a3_0 a4_0 a5_0 a6_0 a7_0 l0_0 l1_0 l2_0 z0_0 z1_0 z2_0 z3_0 z4_0 z5_0 z6_0 z7_0 f1_0 f3_0
  obtain ⟨⟨a0_4, a1_4, a2_4, a3_4, a4_4, a5_4, a6_4, a7_4⟩, ⟨l0_4, l1_4, l2_4⟩, ⟨z0_4, z1_4, z2_4, z3_4, z4_4, z5_4, z6_4, z7_4⟩, f1_4, f3_4, -, -, -⟩ := M4.out.all
  clear hd
  go_wp2_with fail
  obtain ⟨q1, q2, q3, q4⟩ := M4.out.leaf
  refine bodyPost_ret (results_ct rfl _ _ g3 39 _ (0, 0) _ rfl q1 Tryd.underlying39 rfl (by kernel_rfl)) rfl ?_
  exact ⟨_, _, _, _, by rw [HE.out]; rfl, q2, q3, q4, fun h => absurd (HE.out.symm.trans h) (by decide), fun _ => (leafB (d := d) (vd := .slice A6 data.length c6) (vf := .slice A7 d.fields.length c7) M4.out.r HW4.out M4.out.g3w).2⟩

set_option maxHeartbeats 4000000 in
set_option maxRecDepth 100000 in
theorem step_8c {w0 w : World} {S : Nat → Prop} {d : Dc} {data : List Int} {vd vf : Value} (hB : Below w0.heap.size w0 w) (hr : SRows w w0.heap.size S d data vd vf) (hok : DInv d) (c : Int) (h0 : 0 ≤ c) (h1 : c ≤ 255) (he : d.e = 0) (hp : d.place = 8) (hc : c ≠ 13) (ht : textB c = true) (hs : ¬ d.size ≥ d.byts) :
    Calls Tryd.prog 57 #[.agg (sCells d vd vf), .int .u8 c, .agg (lCells d)] w (SPost w0 w S d data c) := by
  obtain ⟨b0, b1, b2, b3, b4, b5, b6, b7, b8, b9, b10⟩ := placesB hp
  obtain ⟨o1, o2, o3, o4, o5, o6⟩ := rangesB hok.ok
  have hc10 : c ≠ 10 := by rintro rfl; exact absurd ht (by decide)
  have HE : Aside0 (LB d d c) := ⟨line_bput he (by omega) (by omega) (by by_cases hs : d.size ≥ d.byts <;> simp [dStep, hp, rLine, hs, dValued, dMore, hc, ht, hc10]) (by by_cases hs : d.size ≥ d.byts <;> simp [dStep, hp, rLine, hs, dValued, dMore, hc, ht, hc10])⟩
  have HZ : Aside0 ((rLine d c).2 = 0) := ⟨by unfold rLine; split; exact absurd (by assumption) hs; split <;> rfl⟩
  have bc : (c == 13) = false := by exact beq_eq_false_iff_ne.mpr (by assumption)
  have HT : Aside0 (catchpitref02_Byte.f c = some true) := ⟨by rw [byte_f c h0 h1, ht]⟩
  have HL := Aside0.mk (rLine_f d hok.ok c (fun _ => hok.l9) data d.ext d.flds)
  clear hc10
  obtain ⟨A6, c6, rfl⟩ := Kd.R_slice hr.data
  obtain ⟨A7, c7, rfl⟩ := Kd.R_slice hr.fields
  have H := Aside0.mk (And.intro hB hr)
  unfold sCells lCells
  clear hB hr hok h0 h1 he hp hc ht hs
  go_enter Tryd.func57, Tryd.ntmps57
  go_wp2_with (first
    | ((with_reducible refine gate_dst (N := 3) rfl ?_); refine box_event ?hg (N := 3) ?hd (cs := sCells d (.slice A6 data.length c6) (.slice A7 d.fields.length c7)) (t := 39) ?hr ?_; (case hd => rfl); (case hg => rfl); (case hr => first | (go_simp; done) | (go_simp; rfl)); intro g1 e1 w1 h1 k1)
    | ((with_reducible refine gate_dst (N := 5) rfl ?_); refine box_event ?hg (N := 5) ?hd (cs := lCells d) (t := 23) ?hr ?_; (case hd => rfl); (case hg => rfl); (case hr => first | (go_simp; done) | (go_simp; rfl)); intro g2 e2 w2 h2 k2)
    | ((with_reducible refine gate_dst (N := 6) rfl ?_); refine box_event ?hg (N := 6) ?hd (cs := zCells) (t := 39) ?hr ?_; (case hd => rfl); (case hg => rfl); (case hr => first | (go_simp; done) | (go_simp; rfl)); intro g3 e3 w3 h3 k3
       have M := Aside0.mk (SMid.start H.out.1 H.out.2 e1 h1 k1 e2 h2 k2 e3 h3 k3)
       have HW := Aside0.mk (below_step (below_step k1 k2) k3)
       obtain ⟨⟨a0_0, a1_0, a2_0, a3_0, a4_0, a5_0, a6_0, a7_0⟩, ⟨l0_0, l1_0, l2_0⟩, ⟨z0_0, z1_0, z2_0, z3_0, z4_0, z5_0, z6_0, z7_0⟩, f1_0, f3_0, n13, n12, n23⟩ := M.out.all
       clear h1 k1 h2 k2 h3 k3 e1 e2 e3))
  refine (catchpitref02_Byte.calls c true _ HT.out).mono ?_
  rintro e w4 ⟨rfl, hd⟩
  have M4 := Aside0.mk (M.out.step (Drawn0.below hd))
  have HW4 := Aside0.mk (below_step HW.out (Drawn0.below hd))
  clear a0_0 a1_0 a2_0 a3_0 a4_0 a5_0 a6_0 a7_0 l0_0 l1_0 l2_0 z0_0 z1_0 z2_0 z3_0 z4_0 z5_0 z6_0 z7_0 f1_0 f3_0
  obtain ⟨⟨a0_4, a1_4, a2_4, a3_4, a4_4, a5_4, a6_4, a7_4⟩, ⟨l0_4, l1_4, l2_4⟩, ⟨z0_4, z1_4, z2_4, z3_4, z4_4, z5_4, z6_4, z7_4⟩, f1_4, f3_4, -, -, -⟩ := M4.out.all
  clear hd
  go_wp2_with fail
  clear a0_4 a1_4 a2_4 a3_4 a4_4 a5_4 a6_4 a7_4 l0_4 l1_4 l2_4 z0_4 z1_4 z2_4 z3_4 z4_4 z5_4 z6_4 z7_4 f1_4 f3_4
  have MP := Aside0.mk M4.out.apart
  refine (catchpitref08_line.calls 200000 _ _ _ _ _ _ (fun k => (S k ∨ w.heap.size ≤ k) ∧ k ≠ g3) _ data (fun k => (S k ∨ w.heap.size ≤ k) ∧ k ≠ g3) _ d.fields c _ _ _ _ _ _ _ _ _ _ _ _ w0 _ M4.out.below MP.out.1 MP.out.2 HL.out).mono ?_
  rintro e w5 ⟨v6, v7, rfl, r1, r2, r3, r4⟩
  obtain ⟨A8, c8, rfl⟩ := Kd.R_slice r1
  obtain ⟨A9, c9, rfl⟩ := Kd.R_slice r2
  obtain ⟨p1, p2, p3, p4⟩ := M4.out.lined (d2 := (rLine d c).1) r1 r2 r3 r4
  have g3w := M4.out.g3w
  have w0w := M4.out.w0w
  have HQ := Aside0.mk (And.intro p1 (And.intro p2 (And.intro p3 (And.intro p4 (And.intro g3w w0w)))))
  have y0 : w5.cell? ⟨g3, 0, none⟩ = some (.int .i64 0) := blk_cell p1 0
  have y1 : w5.cell? ⟨g3, 1, none⟩ = some (.int .u64 0) := blk_cell p1 1
  have y2 : w5.cell? ⟨g3, 2, none⟩ = some (.int .i64 0) := blk_cell p1 2
  have y3 : w5.cell? ⟨g3, 3, none⟩ = some (.int .i64 0) := blk_cell p1 3
  have y4 : w5.cell? ⟨g3, 4, none⟩ = some (.int .i64 0) := blk_cell p1 4
  have y5 : w5.cell? ⟨g3, 5, none⟩ = some (.string (⟨#[]⟩ : ByteArray)) := blk_cell p1 5
  have y6 : w5.cell? ⟨g3, 6, none⟩ = some (.slice none 0 0) := blk_cell p1 6
  have y7 : w5.cell? ⟨g3, 7, none⟩ = some (.slice none 0 0) := blk_cell p1 7
  have fz := blk_frozen p1
  clear r1 r2 r3 r4 p1 p2 p3 p4 MP g3w w0w
  go_wp2_with fail
  obtain ⟨q1, q2, q3, q4⟩ := leaf8 HQ.out.1 HQ.out.2.1 HQ.out.2.2.1 HQ.out.2.2.2.1 HQ.out.2.2.2.2.1 HQ.out.2.2.2.2.2
  refine bodyPost_ret (results_ct rfl _ _ g3 39 _ (0, 0) _ rfl q1 Tryd.underlying39 rfl (by kernel_rfl)) rfl ?_
  refine ⟨{ (rLine d c).1 with e := 0 }, data, _, _, ?_, ⟨q2.1, q2.2⟩, q3, q4, fun h => ?_, fun h => absurd (HE.out.1.trans HZ.out) h⟩
  · rw [HE.out.1]; rfl
  · have h2 := HE.out.2 (HE.out.1.symm.trans h)
    exact ⟨h2.1, by rw [h2.2]; exact (List.append_nil _).symm⟩

set_option maxHeartbeats 4000000 in
set_option maxRecDepth 100000 in
theorem step_8cn {w0 w : World} {S : Nat → Prop} {d : Dc} {data : List Int} {vd vf : Value} (hB : Below w0.heap.size w0 w) (hr : SRows w w0.heap.size S d data vd vf) (hok : DInv d) (c : Int) (h0 : 0 ≤ c) (h1 : c ≤ 255) (he : d.e = 0) (hp : d.place = 8) (hc : c ≠ 13) (ht : textB c = true) (hs : d.size ≥ d.byts) :
    Calls Tryd.prog 57 #[.agg (sCells d vd vf), .int .u8 c, .agg (lCells d)] w (SPost w0 w S d data c) := by
  obtain ⟨b0, b1, b2, b3, b4, b5, b6, b7, b8, b9, b10⟩ := placesB hp
  obtain ⟨o1, o2, o3, o4, o5, o6⟩ := rangesB hok.ok
  have HE : Aside0 ((bput d c).1.e = 5) := ⟨bput_no he (by omega) (by omega) (D := d) (by simp [dStep, hp, dValued, dMore, hc, ht, hs]) (by decide)⟩
  have bc : (c == 13) = false := by exact beq_eq_false_iff_ne.mpr (by assumption)
  have HT : Aside0 (catchpitref02_Byte.f c = some true) := ⟨by rw [byte_f c h0 h1, ht]⟩
  have HS : Aside0 ((d : Dc).size ≥ (d : Dc).byts) := ⟨hs⟩
  obtain ⟨A6, c6, rfl⟩ := Kd.R_slice hr.data
  obtain ⟨A7, c7, rfl⟩ := Kd.R_slice hr.fields
  have H := Aside0.mk (And.intro hB hr)
  unfold sCells lCells
  clear hB hr hok h0 h1 he hp hc ht hs
  go_enter Tryd.func57, Tryd.ntmps57
  go_wp2_with (first
    | ((with_reducible refine gate_dst (N := 3) rfl ?_); refine box_event ?hg (N := 3) ?hd (cs := sCells d (.slice A6 data.length c6) (.slice A7 d.fields.length c7)) (t := 39) ?hr ?_; (case hd => rfl); (case hg => rfl); (case hr => first | (go_simp; done) | (go_simp; rfl)); intro g1 e1 w1 h1 k1)
    | ((with_reducible refine gate_dst (N := 5) rfl ?_); refine box_event ?hg (N := 5) ?hd (cs := lCells d) (t := 23) ?hr ?_; (case hd => rfl); (case hg => rfl); (case hr => first | (go_simp; done) | (go_simp; rfl)); intro g2 e2 w2 h2 k2)
    | ((with_reducible refine gate_dst (N := 6) rfl ?_); refine box_event ?hg (N := 6) ?hd (cs := zCells) (t := 39) ?hr ?_; (case hd => rfl); (case hg => rfl); (case hr => first | (go_simp; done) | (go_simp; rfl)); intro g3 e3 w3 h3 k3
       have M := Aside0.mk (SMid.start H.out.1 H.out.2 e1 h1 k1 e2 h2 k2 e3 h3 k3)
       have HW := Aside0.mk (below_step (below_step k1 k2) k3)
       obtain ⟨⟨a0_0, a1_0, a2_0, a3_0, a4_0, a5_0, a6_0, a7_0⟩, ⟨l0_0, l1_0, l2_0⟩, ⟨z0_0, z1_0, z2_0, z3_0, z4_0, z5_0, z6_0, z7_0⟩, f1_0, f3_0, n13, n12, n23⟩ := M.out.all
       clear h1 k1 h2 k2 h3 k3 e1 e2 e3))
  refine (catchpitref02_Byte.calls c true _ HT.out).mono ?_
  rintro e w4 ⟨rfl, hd⟩
  have M4 := Aside0.mk (M.out.step (Drawn0.below hd))
  have HW4 := Aside0.mk (below_step HW.out (Drawn0.below hd))
  clear a0_0 a1_0 a2_0 a3_0 a4_0 a5_0 a6_0 a7_0 l0_0 l1_0 l2_0 z0_0 z1_0 z2_0 z3_0 z4_0 z5_0 z6_0 z7_0 f1_0 f3_0
  obtain ⟨⟨a0_4, a1_4, a2_4, a3_4, a4_4, a5_4, a6_4, a7_4⟩, ⟨l0_4, l1_4, l2_4⟩, ⟨z0_4, z1_4, z2_4, z3_4, z4_4, z5_4, z6_4, z7_4⟩, f1_4, f3_4, -, -, -⟩ := M4.out.all
  clear hd
  go_wp2_with fail
  clear a0_4 a1_4 a2_4 a3_4 a4_4 a5_4 a6_4 a7_4 l0_4 l1_4 l2_4 z0_4 z1_4 z2_4 z3_4 z4_4 z5_4 z6_4 z7_4 f1_4 f3_4
  have hno := fun (w : World) => line_no (w := w) (d := d) (A6 := A6) (A7 := A7) (n6 := data.length) (c6 := c6) (n7 := d.fields.length) (c7 := c7) c HS.out
  dsimp only [sCells, lCells] at hno
  refine (hno _).mono ?_
  clear hno
  rintro e w6 ⟨rfl, hb6⟩
  have M6 := Aside0.mk (M4.out.step hb6)
  have HW6 := Aside0.mk (below_step HW4.out hb6)
  obtain ⟨z0_6, z1_6, z2_6, z3_6, z4_6, z5_6, z6_6, z7_6⟩ := M6.out.getz
  have f3_6 := M6.out.frozen3
  clear hb6
  go_wp2_with fail
  obtain ⟨q1, q2, q3, q4⟩ := M6.out.leaf
  refine bodyPost_ret (results_ct rfl _ _ g3 39 _ (0, 0) _ rfl q1 Tryd.underlying39 rfl (by kernel_rfl)) rfl ?_
  exact ⟨_, _, _, _, by rw [HE.out]; rfl, q2, q3, q4, fun h => absurd (HE.out.symm.trans h) (by decide), fun _ => (leafB (d := d) (vd := .slice A6 data.length c6) (vf := .slice A7 d.fields.length c7) M6.out.r HW6.out M6.out.g3w).2⟩

set_option maxHeartbeats 4000000 in
set_option maxRecDepth 100000 in
theorem step_6a {w0 w : World} {S : Nat → Prop} {d : Dc} {data : List Int} {vd vf : Value} (hB : Below w0.heap.size w0 w) (hr : SRows w w0.heap.size S d data vd vf) (hok : DInv d) (c : Int) (h0 : 0 ≤ c) (h1 : c ≤ 255) (he : d.e = 0) (hp : d.place = 6) (hc : c = 13) :
    Calls Tryd.prog 57 #[.agg (sCells d vd vf), .int .u8 c, .agg (lCells d)] w (SPost w0 w S d data c) := by
  obtain ⟨b0, b1, b2, b3, b4, b5, b6, b7, b8, b9, b10⟩ := placesB hp
  obtain ⟨o1, o2, o3, o4, o5, o6⟩ := rangesB hok.ok
  have HE : Aside0 (bput d c = ({ { d with place := 10 } with e := 0 }, 1, [])) := ⟨bput_ok he (by omega) (by omega) (by simp [dStep, hp, dFirst, hc])⟩
  have bc : (c == 13) = true := by exact beq_iff_eq.mpr (by assumption)
  obtain ⟨A6, c6, rfl⟩ := Kd.R_slice hr.data
  obtain ⟨A7, c7, rfl⟩ := Kd.R_slice hr.fields
  have H := Aside0.mk (And.intro hB hr)
  unfold sCells lCells
  clear hB hr hok h0 h1 he hp hc
  go_enter Tryd.func57, Tryd.ntmps57
  go_wp2_with (first
    | ((with_reducible refine gate_dst (N := 3) rfl ?_); refine box_event ?hg (N := 3) ?hd (cs := sCells d (.slice A6 data.length c6) (.slice A7 d.fields.length c7)) (t := 39) ?hr ?_; (case hd => rfl); (case hg => rfl); (case hr => first | (go_simp; done) | (go_simp; rfl)); intro g1 e1 w1 h1 k1)
    | ((with_reducible refine gate_dst (N := 5) rfl ?_); refine box_event ?hg (N := 5) ?hd (cs := lCells d) (t := 23) ?hr ?_; (case hd => rfl); (case hg => rfl); (case hr => first | (go_simp; done) | (go_simp; rfl)); intro g2 e2 w2 h2 k2)
    | ((with_reducible refine gate_dst (N := 6) rfl ?_); refine box_event ?hg (N := 6) ?hd (cs := zCells) (t := 39) ?hr ?_; (case hd => rfl); (case hg => rfl); (case hr => first | (go_simp; done) | (go_simp; rfl)); intro g3 e3 w3 h3 k3
       have M := Aside0.mk (SMid.start H.out.1 H.out.2 e1 h1 k1 e2 h2 k2 e3 h3 k3)
       have HW := Aside0.mk (below_step (below_step k1 k2) k3)
       obtain ⟨⟨a0_0, a1_0, a2_0, a3_0, a4_0, a5_0, a6_0, a7_0⟩, ⟨l0_0, l1_0, l2_0⟩, ⟨z0_0, z1_0, z2_0, z3_0, z4_0, z5_0, z6_0, z7_0⟩, f1_0, f3_0, n13, n12, n23⟩ := M.out.all
       clear h1 k1 h2 k2 h3 k3 e1 e2 e3))
  obtain ⟨q1, q2, q3, q4⟩ := (M.out.set (d' := { d with place := 10 }) 0 (.int .i64 10) rfl rfl rfl).leaf
  refine bodyPost_ret (results_ct rfl _ _ g3 39 _ (0, 0) _ rfl q1 Tryd.underlying39 rfl (by kernel_rfl)) rfl ?_
  refine ⟨{ d with place := 10, e := 0 }, data, _, _, ?_, ⟨q2.1, q2.2⟩, q3, q4, fun _ => ?_, fun h => absurd (by rw [HE.out]) h⟩
  · rw [HE.out]; rfl
  · rw [HE.out]; exact ⟨rfl, (List.append_nil _).symm⟩

set_option maxHeartbeats 4000000 in
set_option maxRecDepth 100000 in
theorem step_6b {w0 w : World} {S : Nat → Prop} {d : Dc} {data : List Int} {vd vf : Value} (hB : Below w0.heap.size w0 w) (hr : SRows w w0.heap.size S d data vd vf) (hok : DInv d) (c : Int) (h0 : 0 ≤ c) (h1 : c ≤ 255) (he : d.e = 0) (hp : d.place = 6) (hc : c ≠ 13) (ht : tokenB c = false) :
    Calls Tryd.prog 57 #[.agg (sCells d vd vf), .int .u8 c, .agg (lCells d)] w (SPost w0 w S d data c) := by
  obtain ⟨b0, b1, b2, b3, b4, b5, b6, b7, b8, b9, b10⟩ := placesB hp
  obtain ⟨o1, o2, o3, o4, o5, o6⟩ := rangesB hok.ok
  have HE : Aside0 ((bput d c).1.e = 2) := ⟨bput_no he (by omega) (by omega) (D := d) (by simp [dStep, hp, dFirst, hc, ht]) (by decide)⟩
  have bc : (c == 13) = false := by exact beq_eq_false_iff_ne.mpr (by assumption)
  have HT : Aside0 (catchpitref02_Token.f 3 (one c) = some false) := ⟨by rw [Token_f _ (by simp [one_size]) 3 (by simp [one_size]), token_one c h0 h1, ht]⟩
  obtain ⟨A6, c6, rfl⟩ := Kd.R_slice hr.data
  obtain ⟨A7, c7, rfl⟩ := Kd.R_slice hr.fields
  have H := Aside0.mk (And.intro hB hr)
  unfold sCells lCells
  clear hB hr hok h0 h1 he hp hc ht
  go_enter Tryd.func57, Tryd.ntmps57
  go_wp2_with (first
    | ((with_reducible refine gate_dst (N := 3) rfl ?_); refine box_event ?hg (N := 3) ?hd (cs := sCells d (.slice A6 data.length c6) (.slice A7 d.fields.length c7)) (t := 39) ?hr ?_; (case hd => rfl); (case hg => rfl); (case hr => first | (go_simp; done) | (go_simp; rfl)); intro g1 e1 w1 h1 k1)
    | ((with_reducible refine gate_dst (N := 5) rfl ?_); refine box_event ?hg (N := 5) ?hd (cs := lCells d) (t := 23) ?hr ?_; (case hd => rfl); (case hg => rfl); (case hr => first | (go_simp; done) | (go_simp; rfl)); intro g2 e2 w2 h2 k2)
    | ((with_reducible refine gate_dst (N := 6) rfl ?_); refine box_event ?hg (N := 6) ?hd (cs := zCells) (t := 39) ?hr ?_; (case hd => rfl); (case hg => rfl); (case hr => first | (go_simp; done) | (go_simp; rfl)); intro g3 e3 w3 h3 k3
       have M := Aside0.mk (SMid.start H.out.1 H.out.2 e1 h1 k1 e2 h2 k2 e3 h3 k3)
       have HW := Aside0.mk (below_step (below_step k1 k2) k3)
       obtain ⟨⟨a0_0, a1_0, a2_0, a3_0, a4_0, a5_0, a6_0, a7_0⟩, ⟨l0_0, l1_0, l2_0⟩, ⟨z0_0, z1_0, z2_0, z3_0, z4_0, z5_0, z6_0, z7_0⟩, f1_0, f3_0, n13, n12, n23⟩ := M.out.all
       have hcv := conv_one w3 c
       clear h1 k1 h2 k2 h3 k3 e1 e2 e3))
  have MB := Aside0.mk (M.out.step ((Below.refl _ _).alloc (Nat.le_refl _) (.cells #[.int .u8 c] 5)))
  have HWB := Aside0.mk (below_step HW.out ((Below.refl _ _).alloc (Nat.le_refl _) (.cells #[.int .u8 c] 5)))
  refine (catchpitref02_Token.calls 3 (one c) false _ HT.out).mono ?_
  rintro e w4 ⟨rfl, hd⟩
  clear hcv
  have M4 := Aside0.mk (MB.out.step (Drawn0.below hd))
  have HW4 := Aside0.mk (below_step HWB.out (Drawn0.below hd))
  clear a0_0 a1_0 a2_0 a3_0 a4_0 a5_0 a6_0 a7_0 l0_0 l1_0 l2_0 z0_0 z1_0 z2_0 z3_0 z4_0 z5_0 z6_0 z7_0 f1_0 f3_0
  obtain ⟨⟨a0_4, a1_4, a2_4, a3_4, a4_4, a5_4, a6_4, a7_4⟩, ⟨l0_4, l1_4, l2_4⟩, ⟨z0_4, z1_4, z2_4, z3_4, z4_4, z5_4, z6_4, z7_4⟩, f1_4, f3_4, -, -, -⟩ := M4.out.all
  clear hd
  go_wp2_with fail
  obtain ⟨q1, q2, q3, q4⟩ := M4.out.leaf
  refine bodyPost_ret (results_ct rfl _ _ g3 39 _ (0, 0) _ rfl q1 Tryd.underlying39 rfl (by kernel_rfl)) rfl ?_
  exact ⟨_, _, _, _, by rw [HE.out]; rfl, q2, q3, q4, fun h => absurd (HE.out.symm.trans h) (by decide), fun _ => (leafB (d := d) (vd := .slice A6 data.length c6) (vf := .slice A7 d.fields.length c7) M4.out.r HW4.out M4.out.g3w).2⟩

set_option maxHeartbeats 4000000 in
set_option maxRecDepth 100000 in
theorem step_6c {w0 w : World} {S : Nat → Prop} {d : Dc} {data : List Int} {vd vf : Value} (hB : Below w0.heap.size w0 w) (hr : SRows w w0.heap.size S d data vd vf) (hok : DInv d) (c : Int) (h0 : 0 ≤ c) (h1 : c ≤ 255) (he : d.e = 0) (hp : d.place = 6) (hc : c ≠ 13) (ht : tokenB c = true) (hl : d.lines ≥ d.flds) :
    Calls Tryd.prog 57 #[.agg (sCells d vd vf), .int .u8 c, .agg (lCells d)] w (SPost w0 w S d data c) := by
  obtain ⟨b0, b1, b2, b3, b4, b5, b6, b7, b8, b9, b10⟩ := placesB hp
  obtain ⟨o1, o2, o3, o4, o5, o6⟩ := rangesB hok.ok
  have HE : Aside0 ((bput d c).1.e = 5) := ⟨bput_no he (by omega) (by omega) (D := d) (by simp [dStep, hp, dFirst, hc, ht, hl]) (by decide)⟩
  have bc : (c == 13) = false := by exact beq_eq_false_iff_ne.mpr (by assumption)
  have bx : decide (d.flds ≤ d.lines) = true := by exact decide_eq_true (by omega)
  have HT : Aside0 (catchpitref02_Token.f 3 (one c) = some true) := ⟨by rw [Token_f _ (by simp [one_size]) 3 (by simp [one_size]), token_one c h0 h1, ht]⟩
  obtain ⟨A6, c6, rfl⟩ := Kd.R_slice hr.data
  obtain ⟨A7, c7, rfl⟩ := Kd.R_slice hr.fields
  have H := Aside0.mk (And.intro hB hr)
  unfold sCells lCells
  clear hB hr hok h0 h1 he hp hc ht hl
  go_enter Tryd.func57, Tryd.ntmps57
  go_wp2_with (first
    | ((with_reducible refine gate_dst (N := 3) rfl ?_); refine box_event ?hg (N := 3) ?hd (cs := sCells d (.slice A6 data.length c6) (.slice A7 d.fields.length c7)) (t := 39) ?hr ?_; (case hd => rfl); (case hg => rfl); (case hr => first | (go_simp; done) | (go_simp; rfl)); intro g1 e1 w1 h1 k1)
    | ((with_reducible refine gate_dst (N := 5) rfl ?_); refine box_event ?hg (N := 5) ?hd (cs := lCells d) (t := 23) ?hr ?_; (case hd => rfl); (case hg => rfl); (case hr => first | (go_simp; done) | (go_simp; rfl)); intro g2 e2 w2 h2 k2)
    | ((with_reducible refine gate_dst (N := 6) rfl ?_); refine box_event ?hg (N := 6) ?hd (cs := zCells) (t := 39) ?hr ?_; (case hd => rfl); (case hg => rfl); (case hr => first | (go_simp; done) | (go_simp; rfl)); intro g3 e3 w3 h3 k3
       have M := Aside0.mk (SMid.start H.out.1 H.out.2 e1 h1 k1 e2 h2 k2 e3 h3 k3)
       have HW := Aside0.mk (below_step (below_step k1 k2) k3)
       obtain ⟨⟨a0_0, a1_0, a2_0, a3_0, a4_0, a5_0, a6_0, a7_0⟩, ⟨l0_0, l1_0, l2_0⟩, ⟨z0_0, z1_0, z2_0, z3_0, z4_0, z5_0, z6_0, z7_0⟩, f1_0, f3_0, n13, n12, n23⟩ := M.out.all
       have hcv := conv_one w3 c
       clear h1 k1 h2 k2 h3 k3 e1 e2 e3))
  have MB := Aside0.mk (M.out.step ((Below.refl _ _).alloc (Nat.le_refl _) (.cells #[.int .u8 c] 5)))
  have HWB := Aside0.mk (below_step HW.out ((Below.refl _ _).alloc (Nat.le_refl _) (.cells #[.int .u8 c] 5)))
  refine (catchpitref02_Token.calls 3 (one c) true _ HT.out).mono ?_
  rintro e w4 ⟨rfl, hd⟩
  clear hcv
  have M4 := Aside0.mk (MB.out.step (Drawn0.below hd))
  have HW4 := Aside0.mk (below_step HWB.out (Drawn0.below hd))
  clear a0_0 a1_0 a2_0 a3_0 a4_0 a5_0 a6_0 a7_0 l0_0 l1_0 l2_0 z0_0 z1_0 z2_0 z3_0 z4_0 z5_0 z6_0 z7_0 f1_0 f3_0
  obtain ⟨⟨a0_4, a1_4, a2_4, a3_4, a4_4, a5_4, a6_4, a7_4⟩, ⟨l0_4, l1_4, l2_4⟩, ⟨z0_4, z1_4, z2_4, z3_4, z4_4, z5_4, z6_4, z7_4⟩, f1_4, f3_4, -, -, -⟩ := M4.out.all
  clear hd
  go_wp2_with fail
  obtain ⟨q1, q2, q3, q4⟩ := M4.out.leaf
  refine bodyPost_ret (results_ct rfl _ _ g3 39 _ (0, 0) _ rfl q1 Tryd.underlying39 rfl (by kernel_rfl)) rfl ?_
  exact ⟨_, _, _, _, by rw [HE.out]; rfl, q2, q3, q4, fun h => absurd (HE.out.symm.trans h) (by decide), fun _ => (leafB (d := d) (vd := .slice A6 data.length c6) (vf := .slice A7 d.fields.length c7) M4.out.r HW4.out M4.out.g3w).2⟩

set_option maxHeartbeats 4000000 in
set_option maxRecDepth 100000 in
theorem step_6d {w0 w : World} {S : Nat → Prop} {d : Dc} {data : List Int} {vd vf : Value} (hB : Below w0.heap.size w0 w) (hr : SRows w w0.heap.size S d data vd vf) (hok : DInv d) (c : Int) (h0 : 0 ≤ c) (h1 : c ≤ 255) (he : d.e = 0) (hp : d.place = 6) (hc : c ≠ 13) (ht : tokenB c = true) (hl : ¬ d.lines ≥ d.flds) (hs : ¬ d.size ≥ d.byts) :
    Calls Tryd.prog 57 #[.agg (sCells d vd vf), .int .u8 c, .agg (lCells d)] w (SPost w0 w S d data c) := by
  obtain ⟨b0, b1, b2, b3, b4, b5, b6, b7, b8, b9, b10⟩ := placesB hp
  obtain ⟨o1, o2, o3, o4, o5, o6⟩ := rangesB hok.ok
  have hc10 : c ≠ 10 := by rintro rfl; exact absurd ht (by decide)
  have HE : Aside0 (LB d { d with lines := d.lines + 1, place := 7 } c) := ⟨line_bput he (by omega) (by omega) (by by_cases hs : d.size ≥ d.byts <;> simp [dStep, hp, rLine, hs, dFirst, dMore, hc, ht, hl, hc10]) (by by_cases hs : d.size ≥ d.byts <;> simp [dStep, hp, rLine, hs, dFirst, dMore, hc, ht, hl, hc10])⟩
  have HZ : Aside0 ((rLine { d with lines := d.lines + 1, place := 7 } c).2 = 0) := ⟨by unfold rLine; split; exact absurd (by assumption) hs; split <;> rfl⟩
  have bc : (c == 13) = false := by exact beq_eq_false_iff_ne.mpr (by assumption)
  have bx : decide (d.flds ≤ d.lines) = false := by exact decide_eq_false (by omega)
  have HT : Aside0 (catchpitref02_Token.f 3 (one c) = some true) := ⟨by rw [Token_f _ (by simp [one_size]) 3 (by simp [one_size]), token_one c h0 h1, ht]⟩
  have HL := Aside0.mk (rLine_f { d with lines := d.lines + 1, place := 7 } (hok.ok.first (by omega)) c (fun _ e => absurd e (by show ¬ (7 : Int) = 9; omega)) data d.ext d.flds)
  clear hc10
  obtain ⟨A6, c6, rfl⟩ := Kd.R_slice hr.data
  obtain ⟨A7, c7, rfl⟩ := Kd.R_slice hr.fields
  have H := Aside0.mk (And.intro hB hr)
  unfold sCells lCells
  clear hB hr hok h0 h1 he hp hc ht hl hs
  go_enter Tryd.func57, Tryd.ntmps57
  go_wp2_with (first
    | ((with_reducible refine gate_dst (N := 3) rfl ?_); refine box_event ?hg (N := 3) ?hd (cs := sCells d (.slice A6 data.length c6) (.slice A7 d.fields.length c7)) (t := 39) ?hr ?_; (case hd => rfl); (case hg => rfl); (case hr => first | (go_simp; done) | (go_simp; rfl)); intro g1 e1 w1 h1 k1)
    | ((with_reducible refine gate_dst (N := 5) rfl ?_); refine box_event ?hg (N := 5) ?hd (cs := lCells d) (t := 23) ?hr ?_; (case hd => rfl); (case hg => rfl); (case hr => first | (go_simp; done) | (go_simp; rfl)); intro g2 e2 w2 h2 k2)
    | ((with_reducible refine gate_dst (N := 6) rfl ?_); refine box_event ?hg (N := 6) ?hd (cs := zCells) (t := 39) ?hr ?_; (case hd => rfl); (case hg => rfl); (case hr => first | (go_simp; done) | (go_simp; rfl)); intro g3 e3 w3 h3 k3
       have M := Aside0.mk (SMid.start H.out.1 H.out.2 e1 h1 k1 e2 h2 k2 e3 h3 k3)
       have HW := Aside0.mk (below_step (below_step k1 k2) k3)
       obtain ⟨⟨a0_0, a1_0, a2_0, a3_0, a4_0, a5_0, a6_0, a7_0⟩, ⟨l0_0, l1_0, l2_0⟩, ⟨z0_0, z1_0, z2_0, z3_0, z4_0, z5_0, z6_0, z7_0⟩, f1_0, f3_0, n13, n12, n23⟩ := M.out.all
       have hcv := conv_one w3 c
       clear h1 k1 h2 k2 h3 k3 e1 e2 e3))
  have MB := Aside0.mk (M.out.step ((Below.refl _ _).alloc (Nat.le_refl _) (.cells #[.int .u8 c] 5)))
  have HWB := Aside0.mk (below_step HW.out ((Below.refl _ _).alloc (Nat.le_refl _) (.cells #[.int .u8 c] 5)))
  refine (catchpitref02_Token.calls 3 (one c) true _ HT.out).mono ?_
  rintro e w4 ⟨rfl, hd⟩
  clear hcv
  have M4 := Aside0.mk (MB.out.step (Drawn0.below hd))
  have HW4 := Aside0.mk (below_step HWB.out (Drawn0.below hd))
  clear a0_0 a1_0 a2_0 a3_0 a4_0 a5_0 a6_0 a7_0 l0_0 l1_0 l2_0 z0_0 z1_0 z2_0 z3_0 z4_0 z5_0 z6_0 z7_0 f1_0 f3_0
  obtain ⟨⟨a0_4, a1_4, a2_4, a3_4, a4_4, a5_4, a6_4, a7_4⟩, ⟨l0_4, l1_4, l2_4⟩, ⟨z0_4, z1_4, z2_4, z3_4, z4_4, z5_4, z6_4, z7_4⟩, f1_4, f3_4, -, -, -⟩ := M4.out.all
  clear hd
  go_wp2_with fail
  have M5 := Aside0.mk ((M4.out.set (d' := { d with lines := d.lines + 1 }) 3 (.int .i64 (d.lines + 1)) rfl rfl rfl).set (d' := { d with lines := d.lines + 1, place := 7 }) 0 (.int .i64 7) rfl rfl rfl)
  clear a0_4 a1_4 a2_4 a3_4 a4_4 a5_4 a6_4 a7_4 l0_4 l1_4 l2_4 z0_4 z1_4 z2_4 z3_4 z4_4 z5_4 z6_4 z7_4 f1_4 f3_4
  have MP := Aside0.mk M5.out.apart
  refine (catchpitref08_line.calls 200000 _ _ _ _ _ _ (fun k => (S k ∨ w.heap.size ≤ k) ∧ k ≠ g3) _ data (fun k => (S k ∨ w.heap.size ≤ k) ∧ k ≠ g3) _ d.fields c _ _ _ _ _ _ _ _ _ _ _ _ w0 _ M5.out.below MP.out.1 MP.out.2 HL.out).mono ?_
  rintro e w5 ⟨v6, v7, rfl, r1, r2, r3, r4⟩
  obtain ⟨A8, c8, rfl⟩ := Kd.R_slice r1
  obtain ⟨A9, c9, rfl⟩ := Kd.R_slice r2
  obtain ⟨p1, p2, p3, p4⟩ := M5.out.lined (d2 := (rLine { d with lines := d.lines + 1, place := 7 } c).1) r1 r2 r3 r4
  have g3w := M5.out.g3w
  have w0w := M5.out.w0w
  have HQ := Aside0.mk (And.intro p1 (And.intro p2 (And.intro p3 (And.intro p4 (And.intro g3w w0w)))))
  have y0 : w5.cell? ⟨g3, 0, none⟩ = some (.int .i64 0) := blk_cell p1 0
  have y1 : w5.cell? ⟨g3, 1, none⟩ = some (.int .u64 0) := blk_cell p1 1
  have y2 : w5.cell? ⟨g3, 2, none⟩ = some (.int .i64 0) := blk_cell p1 2
  have y3 : w5.cell? ⟨g3, 3, none⟩ = some (.int .i64 0) := blk_cell p1 3
  have y4 : w5.cell? ⟨g3, 4, none⟩ = some (.int .i64 0) := blk_cell p1 4
  have y5 : w5.cell? ⟨g3, 5, none⟩ = some (.string (⟨#[]⟩ : ByteArray)) := blk_cell p1 5
  have y6 : w5.cell? ⟨g3, 6, none⟩ = some (.slice none 0 0) := blk_cell p1 6
  have y7 : w5.cell? ⟨g3, 7, none⟩ = some (.slice none 0 0) := blk_cell p1 7
  have fz := blk_frozen p1
  clear r1 r2 r3 r4 p1 p2 p3 p4 MP g3w w0w
  go_wp2_with fail
  obtain ⟨q1, q2, q3, q4⟩ := leaf8 HQ.out.1 HQ.out.2.1 HQ.out.2.2.1 HQ.out.2.2.2.1 HQ.out.2.2.2.2.1 HQ.out.2.2.2.2.2
  refine bodyPost_ret (results_ct rfl _ _ g3 39 _ (0, 0) _ rfl q1 Tryd.underlying39 rfl (by kernel_rfl)) rfl ?_
  refine ⟨{ (rLine { d with lines := d.lines + 1, place := 7 } c).1 with e := 0 }, data, _, _, ?_, ⟨q2.1, q2.2⟩, q3, q4, fun h => ?_, fun h => absurd (HE.out.1.trans HZ.out) h⟩
  · rw [HE.out.1]; rfl
  · have h2 := HE.out.2 (HE.out.1.symm.trans h)
    exact ⟨h2.1, by rw [h2.2]; exact (List.append_nil _).symm⟩

set_option maxHeartbeats 4000000 in
set_option maxRecDepth 100000 in
theorem step_6dn {w0 w : World} {S : Nat → Prop} {d : Dc} {data : List Int} {vd vf : Value} (hB : Below w0.heap.size w0 w) (hr : SRows w w0.heap.size S d data vd vf) (hok : DInv d) (c : Int) (h0 : 0 ≤ c) (h1 : c ≤ 255) (he : d.e = 0) (hp : d.place = 6) (hc : c ≠ 13) (ht : tokenB c = true) (hl : ¬ d.lines ≥ d.flds) (hs : d.size ≥ d.byts) :
    Calls Tryd.prog 57 #[.agg (sCells d vd vf), .int .u8 c, .agg (lCells d)] w (SPost w0 w S d data c) := by
  obtain ⟨b0, b1, b2, b3, b4, b5, b6, b7, b8, b9, b10⟩ := placesB hp
  obtain ⟨o1, o2, o3, o4, o5, o6⟩ := rangesB hok.ok
  have HE : Aside0 ((bput d c).1.e = 5) := ⟨bput_no he (by omega) (by omega) (D := d) (by simp [dStep, hp, dFirst, dMore, hc, ht, hl, hs]) (by decide)⟩
  have bc : (c == 13) = false := by exact beq_eq_false_iff_ne.mpr (by assumption)
  have bx : decide (d.flds ≤ d.lines) = false := by exact decide_eq_false (by omega)
  have HT : Aside0 (catchpitref02_Token.f 3 (one c) = some true) := ⟨by rw [Token_f _ (by simp [one_size]) 3 (by simp [one_size]), token_one c h0 h1, ht]⟩
  have HS : Aside0 (({ d with lines := d.lines + 1, place := 7 } : Dc).size ≥ ({ d with lines := d.lines + 1, place := 7 } : Dc).byts) := ⟨hs⟩
  obtain ⟨A6, c6, rfl⟩ := Kd.R_slice hr.data
  obtain ⟨A7, c7, rfl⟩ := Kd.R_slice hr.fields
  have H := Aside0.mk (And.intro hB hr)
  unfold sCells lCells
  clear hB hr hok h0 h1 he hp hc ht hl hs
  go_enter Tryd.func57, Tryd.ntmps57
  go_wp2_with (first
    | ((with_reducible refine gate_dst (N := 3) rfl ?_); refine box_event ?hg (N := 3) ?hd (cs := sCells d (.slice A6 data.length c6) (.slice A7 d.fields.length c7)) (t := 39) ?hr ?_; (case hd => rfl); (case hg => rfl); (case hr => first | (go_simp; done) | (go_simp; rfl)); intro g1 e1 w1 h1 k1)
    | ((with_reducible refine gate_dst (N := 5) rfl ?_); refine box_event ?hg (N := 5) ?hd (cs := lCells d) (t := 23) ?hr ?_; (case hd => rfl); (case hg => rfl); (case hr => first | (go_simp; done) | (go_simp; rfl)); intro g2 e2 w2 h2 k2)
    | ((with_reducible refine gate_dst (N := 6) rfl ?_); refine box_event ?hg (N := 6) ?hd (cs := zCells) (t := 39) ?hr ?_; (case hd => rfl); (case hg => rfl); (case hr => first | (go_simp; done) | (go_simp; rfl)); intro g3 e3 w3 h3 k3
       have M := Aside0.mk (SMid.start H.out.1 H.out.2 e1 h1 k1 e2 h2 k2 e3 h3 k3)
       have HW := Aside0.mk (below_step (below_step k1 k2) k3)
       obtain ⟨⟨a0_0, a1_0, a2_0, a3_0, a4_0, a5_0, a6_0, a7_0⟩, ⟨l0_0, l1_0, l2_0⟩, ⟨z0_0, z1_0, z2_0, z3_0, z4_0, z5_0, z6_0, z7_0⟩, f1_0, f3_0, n13, n12, n23⟩ := M.out.all
       have hcv := conv_one w3 c
       clear h1 k1 h2 k2 h3 k3 e1 e2 e3))
  have MB := Aside0.mk (M.out.step ((Below.refl _ _).alloc (Nat.le_refl _) (.cells #[.int .u8 c] 5)))
  have HWB := Aside0.mk (below_step HW.out ((Below.refl _ _).alloc (Nat.le_refl _) (.cells #[.int .u8 c] 5)))
  refine (catchpitref02_Token.calls 3 (one c) true _ HT.out).mono ?_
  rintro e w4 ⟨rfl, hd⟩
  clear hcv
  have M4 := Aside0.mk (MB.out.step (Drawn0.below hd))
  have HW4 := Aside0.mk (below_step HWB.out (Drawn0.below hd))
  clear a0_0 a1_0 a2_0 a3_0 a4_0 a5_0 a6_0 a7_0 l0_0 l1_0 l2_0 z0_0 z1_0 z2_0 z3_0 z4_0 z5_0 z6_0 z7_0 f1_0 f3_0
  obtain ⟨⟨a0_4, a1_4, a2_4, a3_4, a4_4, a5_4, a6_4, a7_4⟩, ⟨l0_4, l1_4, l2_4⟩, ⟨z0_4, z1_4, z2_4, z3_4, z4_4, z5_4, z6_4, z7_4⟩, f1_4, f3_4, -, -, -⟩ := M4.out.all
  clear hd
  go_wp2_with fail
  have M5 := Aside0.mk ((M4.out.set (d' := { d with lines := d.lines + 1 }) 3 (.int .i64 (d.lines + 1)) rfl rfl rfl).set (d' := { d with lines := d.lines + 1, place := 7 }) 0 (.int .i64 7) rfl rfl rfl)
  have HW5 := Aside0.mk ((HW4.out.setCell (p := ⟨g1, 3, none⟩) M.out.g1w (.int .i64 (d.lines + 1))).setCell (p := ⟨g1, 0, none⟩) M.out.g1w (.int .i64 7))
  clear a0_4 a1_4 a2_4 a3_4 a4_4 a5_4 a6_4 a7_4 l0_4 l1_4 l2_4 z0_4 z1_4 z2_4 z3_4 z4_4 z5_4 z6_4 z7_4 f1_4 f3_4
  have hno := fun (w : World) => line_no (w := w) (d := { d with lines := d.lines + 1, place := 7 }) (A6 := A6) (A7 := A7) (n6 := data.length) (c6 := c6) (n7 := d.fields.length) (c7 := c7) c HS.out
  dsimp only [sCells, lCells] at hno
  refine (hno _).mono ?_
  clear hno
  rintro e w6 ⟨rfl, hb6⟩
  have M6 := Aside0.mk (M5.out.step hb6)
  have HW6 := Aside0.mk (below_step HW5.out hb6)
  obtain ⟨z0_6, z1_6, z2_6, z3_6, z4_6, z5_6, z6_6, z7_6⟩ := M6.out.getz
  have f3_6 := M6.out.frozen3
  clear hb6
  go_wp2_with fail
  obtain ⟨q1, q2, q3, q4⟩ := M6.out.leaf
  refine bodyPost_ret (results_ct rfl _ _ g3 39 _ (0, 0) _ rfl q1 Tryd.underlying39 rfl (by kernel_rfl)) rfl ?_
  exact ⟨_, _, _, _, by rw [HE.out]; rfl, q2, q3, q4, fun h => absurd (HE.out.symm.trans h) (by decide), fun _ => (leafB (d := { d with lines := d.lines + 1, place := 7 }) (vd := .slice A6 data.length c6) (vf := .slice A7 d.fields.length c7) M6.out.r HW6.out M6.out.g3w).2⟩

end Go.Proofs.YtebjfgkgfgbndaaDoor
