/- The chunked decoder's methods first, named, valued: contracts (walks) over this seat's translation. -/
import Derived.Test.YtebjfgkgfgbndaaDoorHd
namespace Go.Proofs.YtebjfgkgfgbndaaDoor
open Go.RowKit Go.Proofs.YtebjfgkgfgbndaaDoorW.PrintWords Go.Proofs.YtebjfgkgfgbndaaDoorW.PrintLast Go.Proofs.YtebjfgkgfgbndaaDoorW.PrintMore
open PBodyScans
set_option linter.unusedVariables false
set_option linter.unusedSimpArgs false

theorem more_calls {B g : Nat} {S : Nat → Prop} {d : Dc} {w : World} (h : DcAt w B g S d) (hok : DcOk d) (c p : Int) :
    Calls Tryd.prog 102 #[.pointer (some ⟨g, 0, none⟩), .int .u8 c, .int .i64 p] w (MPost w B g S (dMore d c p)) := by
  unfold dMore
  split
  · exact more_no h c p (by assumption)
  · exact more_yes h hok c p (by assumption)
theorem dMore_lines (d : Dc) (c p : Int) : (dMore d c p).1.lines = d.lines := by unfold dMore; split <;> rfl

def dNamed (d : Dc) (c : Int) : Dc × Int := if c = 58 then dMore d c 8 else if tokenB c = false then (d, 2) else dMore d c 7
set_option maxRecDepth 100000 in
theorem named_calls {B g : Nat} {S : Nat → Prop} {d : Dc} {w : World} (h : DcAt w B g S d) (hB : 2 ≤ B) (hv : Vars w) (hok : DcOk d) (c : Int) (h0 : 0 ≤ c) (h1 : c ≤ 255) :
    Calls Tryd.prog 82 #[.pointer (some ⟨g, 0, none⟩), .int .u8 c] w (MPost w B g S (dNamed d c)) := by
  by_cases hb : c = 58
  · have HP := Aside0.mk (show dNamed d c = dMore d c 8 by unfold dNamed; rw [if_pos hb])
    rw [HP.out]
    subst hb
    go_enter Tryd.func82, Tryd.ntmps82
    go_wp2_with (go_at_call 102; refine (more_calls h hok 58 8).mono ?_; rintro e w' ⟨rfl, hm⟩)
    go_ret
    exact ⟨rfl, hm⟩
  · have bb : (c == 58) = false := beq_eq_false_iff_ne.mpr hb
    have M1 := Aside0.mk ((Mid.start h).alloc (.cells #[.int .u8 c] 5))
    have V1 := Aside0.mk (M1.out.vars hv hB)
    have HT := Aside0.mk (token_one c h0 h1)
    have HO := Aside0.mk hok
    cases ht : tokenB c with
    | false =>
      have HP := Aside0.mk (show dNamed d c = (d, 2) by unfold dNamed; rw [if_neg hb, if_pos ht])
      rw [HP.out]
      rw [ht] at HT
      clear ht hb HP h0 h1 h hv hok hB
      have hcv := conv_one w c
      go_enter Tryd.func82, Tryd.ntmps82
      go_wp2_with (go_at_call 101; refine (token_calls (one c) _ V1.out.1 (by simp [one_size])).mono ?_; rintro e w2 ⟨rfl, hb2⟩; rw [HT.out])
      go_ret
      exact ⟨rfl, M1.out.below hb2⟩
    | true =>
      have HP := Aside0.mk (show dNamed d c = dMore d c 7 by unfold dNamed; rw [if_neg hb, if_neg (by rw [ht]; simp)])
      rw [HP.out]
      rw [ht] at HT
      clear ht hb HP h0 h1 h hv hok hB
      have hcv := conv_one w c
      go_enter Tryd.func82, Tryd.ntmps82
      go_wp2_with fail
      refine (token_calls (one c) _ V1.out.1 (by simp [one_size])).mono ?_
      rintro e w2 ⟨rfl, hb2⟩
      rw [HT.out]
      have M2 := Aside0.mk (M1.out.below hb2)
      clear hb2 hcv
      go_wp2_with (go_at_call 102; refine (more_calls M2.out.1 HO.out c 7).mono ?_; rintro e w' ⟨rfl, hm⟩)
      go_ret
      exact ⟨rfl, M2.out.then hm⟩

def dValued (d : Dc) (c : Int) : Dc × Int := if c = 13 then dMore d c 9 else if textB c = false then (d, 2) else dMore d c 8
set_option maxRecDepth 100000 in
theorem valued_calls {B g : Nat} {S : Nat → Prop} {d : Dc} {w : World} (h : DcAt w B g S d) (hB : 2 ≤ B) (hv : Vars w) (hok : DcOk d) (c : Int) (h0 : 0 ≤ c) (h1 : c ≤ 255) :
    Calls Tryd.prog 83 #[.pointer (some ⟨g, 0, none⟩), .int .u8 c] w (MPost w B g S (dValued d c)) := by
  by_cases hb : c = 13
  · have HP := Aside0.mk (show dValued d c = dMore d c 9 by unfold dValued; rw [if_pos hb])
    rw [HP.out]
    subst hb
    go_enter Tryd.func83, Tryd.ntmps83
    go_wp2_with (go_at_call 102; refine (more_calls h hok 13 9).mono ?_; rintro e w' ⟨rfl, hm⟩)
    go_ret
    exact ⟨rfl, hm⟩
  · have bb : (c == 13) = false := beq_eq_false_iff_ne.mpr hb
    have M1 := Aside0.mk ((Mid.start h).alloc (.cells #[.int .u8 c] 5))
    have V1 := Aside0.mk (M1.out.vars hv hB)
    have HT := Aside0.mk (text_one c h0 h1)
    have HO := Aside0.mk hok
    cases ht : textB c with
    | false =>
      have HP := Aside0.mk (show dValued d c = (d, 2) by unfold dValued; rw [if_neg hb, if_pos ht])
      rw [HP.out]
      rw [ht] at HT
      clear ht hb HP h0 h1 h hv hok hB
      have hcv := conv_one w c
      go_enter Tryd.func83, Tryd.ntmps83
      go_wp2_with (go_at_call 100; refine (text_calls (one c) _ V1.out.1 (by simp [one_size])).mono ?_; rintro e w2 ⟨rfl, hb2⟩; rw [HT.out])
      go_ret
      exact ⟨rfl, M1.out.below hb2⟩
    | true =>
      have HP := Aside0.mk (show dValued d c = dMore d c 8 by unfold dValued; rw [if_neg hb, if_neg (by rw [ht]; simp)])
      rw [HP.out]
      rw [ht] at HT
      clear ht hb HP h0 h1 h hv hok hB
      have hcv := conv_one w c
      go_enter Tryd.func83, Tryd.ntmps83
      go_wp2_with fail
      refine (text_calls (one c) _ V1.out.1 (by simp [one_size])).mono ?_
      rintro e w2 ⟨rfl, hb2⟩
      rw [HT.out]
      have M2 := Aside0.mk (M1.out.below hb2)
      clear hb2 hcv
      go_wp2_with (go_at_call 102; refine (more_calls M2.out.1 HO.out c 8).mono ?_; rintro e w' ⟨rfl, hm⟩)
      go_ret
      exact ⟨rfl, M2.out.then hm⟩

def dFirst (d : Dc) (c : Int) : Dc × Int :=
  if c = 13 then ({ d with place := 10 }, 0) else if tokenB c = false then (d, 2) else if d.lines ≥ d.flds then (d, 5)
  else if (dMore d c 7).2 = 0 then ({ (dMore d c 7).1 with lines := d.lines + 1 }, 0) else dMore d c 7
set_option maxHeartbeats 1000000 in
set_option maxRecDepth 100000 in
theorem first_calls {B g : Nat} {S : Nat → Prop} {d : Dc} {w : World} (h : DcAt w B g S d) (hB : 2 ≤ B) (hv : Vars w) (hok : DcOk d) (c : Int) (h0 : 0 ≤ c) (h1 : c ≤ 255) :
    Calls Tryd.prog 81 #[.pointer (some ⟨g, 0, none⟩), .int .u8 c] w (MPost w B g S (dFirst d c)) := by
  by_cases hb : c = 13
  · have HP := Aside0.mk (show dFirst d c = dTo d 10 true by unfold dFirst; rw [if_pos hb]; rfl)
    rw [HP.out]
    subst hb
    go_enter Tryd.func81, Tryd.ntmps81
    go_wp2_with (go_at_call 99; refine (to_calls h 10 true).mono ?_; rintro e w' ⟨rfl, hm⟩)
    go_ret
    exact ⟨rfl, hm⟩
  · have bb : (c == 13) = false := beq_eq_false_iff_ne.mpr hb
    have M1 := Aside0.mk ((Mid.start h).alloc (.cells #[.int .u8 c] 5))
    have V1 := Aside0.mk (M1.out.vars hv hB)
    have HT := Aside0.mk (token_one c h0 h1)
    have HO := Aside0.mk hok
    cases ht : tokenB c with
    | false =>
      have HP := Aside0.mk (show dFirst d c = (d, 2) by unfold dFirst; rw [if_neg hb, if_pos ht])
      rw [HP.out]
      rw [ht] at HT
      clear ht hb HP h0 h1 h hv hok hB
      have hcv := conv_one w c
      go_enter Tryd.func81, Tryd.ntmps81
      go_wp2_with (go_at_call 101; refine (token_calls (one c) _ V1.out.1 (by simp [one_size])).mono ?_; rintro e w2 ⟨rfl, hb2⟩; rw [HT.out])
      go_ret
      exact ⟨rfl, M1.out.below hb2⟩
    | true =>
      rw [ht] at HT
      by_cases hc : d.lines ≥ d.flds
      · have b1 : decide (d.flds ≤ d.lines) = true := decide_eq_true hc
        have HP := Aside0.mk (show dFirst d c = (d, 5) by unfold dFirst; rw [if_neg hb, if_neg (by rw [ht]; simp), if_pos hc])
        rw [HP.out]
        clear ht hb HP h0 h1 h hv hok hB hc
        have hcv := conv_one w c
        go_enter Tryd.func81, Tryd.ntmps81
        go_wp2_with fail
        refine (token_calls (one c) _ V1.out.1 (by simp [one_size])).mono ?_
        rintro e w2 ⟨rfl, hb2⟩
        rw [HT.out]
        have M2 := Aside0.mk (M1.out.below hb2)
        have c6 := M2.out.1.get_lines
        have c1 := M2.out.1.get_flds
        clear hb2 hcv
        go_wp2_with fail
        go_quiet (fail)
        go_wp2_with fail
        go_ret
        exact ⟨rfl, M2.out.drawn _⟩
      · have b1 : decide (d.flds ≤ d.lines) = false := decide_eq_false hc
        by_cases hr : (dMore d c 7).2 = 0
        · have br : ((dMore d c 7).2 == 0) = true := beq_iff_eq.mpr hr
          have HP := Aside0.mk (show dFirst d c = ({ (dMore d c 7).1 with lines := d.lines + 1 }, 0) by unfold dFirst; rw [if_neg hb, if_neg (by rw [ht]; simp), if_neg hc, if_pos hr])
          rw [HP.out]
          clear ht hb HP h0 h1 h hv hok hB hc
          have hcv := conv_one w c
          go_enter Tryd.func81, Tryd.ntmps81
          go_wp2_with fail
          refine (token_calls (one c) _ V1.out.1 (by simp [one_size])).mono ?_
          rintro e w2 ⟨rfl, hb2⟩
          rw [HT.out]
          have M2 := Aside0.mk (M1.out.below hb2)
          have c6 := M2.out.1.get_lines
          have c1 := M2.out.1.get_flds
          clear hb2 hcv
          go_wp2_with fail
          go_quiet (fail)
          have M3 := Aside0.mk (M2.out.drawn nq)
          go_wp2_with fail
          refine (more_calls M3.out.1 HO.out c 7).mono ?_
          rintro e w3 ⟨rfl, hm⟩
          have M4 := Aside0.mk (M3.out.then hm)
          have q6 := M4.out.1.get_lines
          rw [dMore_lines] at q6
          have p6 := M4.out.1.frozen 6
          have l0 := HO.out.lines0
          have l1 := HO.out.lines1
          clear hm M3
          have HR := Aside0.mk hr
          clear hr
          go_wp2_with fail
          go_ret
          exact ⟨by rw [← HR.out]; rfl, M4.out.set_lines _⟩
        · have br : ((dMore d c 7).2 == 0) = false := beq_eq_false_iff_ne.mpr hr
          have HP := Aside0.mk (show dFirst d c = dMore d c 7 by unfold dFirst; rw [if_neg hb, if_neg (by rw [ht]; simp), if_neg hc, if_neg hr])
          rw [HP.out]
          clear ht hb HP h0 h1 h hv hok hB hc
          have hcv := conv_one w c
          go_enter Tryd.func81, Tryd.ntmps81
          go_wp2_with fail
          refine (token_calls (one c) _ V1.out.1 (by simp [one_size])).mono ?_
          rintro e w2 ⟨rfl, hb2⟩
          rw [HT.out]
          have M2 := Aside0.mk (M1.out.below hb2)
          have c6 := M2.out.1.get_lines
          have c1 := M2.out.1.get_flds
          clear hb2 hcv
          go_wp2_with fail
          go_quiet (fail)
          have M3 := Aside0.mk (M2.out.drawn nq)
          go_wp2_with fail
          refine (more_calls M3.out.1 HO.out c 7).mono ?_
          rintro e w3 ⟨rfl, hm⟩
          have M4 := Aside0.mk (M3.out.then hm)
          have q6 := M4.out.1.get_lines
          rw [dMore_lines] at q6
          have p6 := M4.out.1.frozen 6
          have l0 := HO.out.lines0
          have l1 := HO.out.lines1
          clear hm M3
          clear hr
          go_wp2_with fail
          go_ret
          exact ⟨rfl, M4.out⟩
end Go.Proofs.YtebjfgkgfgbndaaDoor
