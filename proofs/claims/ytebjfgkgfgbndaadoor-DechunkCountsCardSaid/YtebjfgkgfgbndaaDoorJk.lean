/- The law DechunkCounts: a contract (walk) over this seat's translation. -/
import Derived.Test.YtebjfgkgfgbndaaDoorMj
namespace Go.Proofs.YtebjfgkgfgbndaaDoor
open Go.RowKit Go.Proofs.YtebjfgkgfgbndaaDoorW.PrintWords Go.Proofs.YtebjfgkgfgbndaaDoorW.PrintLast Go.Proofs.YtebjfgkgfgbndaaDoorW.PrintMore
open PBodyScans
set_option linter.unusedVariables false
set_option linter.unusedSimpArgs false

theorem bput_or {d : Dc} (c : Int) (h : d.e = 0 ∨ d.place ≠ 11) : (bput d c).1.e = 0 ∨ (bput d c).1.place ≠ 11 := by
  by_cases he : d.e = 0
  · by_cases h11 : d.place = 11
    · left
      unfold bput
      rw [if_pos he, if_neg (by simpa using h11)]
      exact he
    · by_cases hb : (bput d c).1.e = 0
      · exact .inl hb
      · right
        rw [(bput_err he hb).2.1]
        exact h11
  · have e : bput d c = (d, 0, []) := by unfold bput; rw [if_neg he]
    rw [e]
    exact h
theorem runB_or : ∀ (l : List Int) (d : Dc), (d.e = 0 ∨ d.place ≠ 11) → (runB l d).1.e = 0 ∨ (runB l d).1.place ≠ 11
  | [], d, h => h
  | c :: cs, d, h => runB_or cs _ (bput_or c h)
theorem endE_done {b : List Int} {x y z : Int} (h : (runB b (dc0 x y z)).1.place = 11) : endE (runB b (dc0 x y z)).1 = 0 := by
  have := runB_or b (dc0 x y z) (.inl rfl)
  unfold endE
  rw [if_neg (by simpa using this.resolve_right (by simpa using h)), if_pos h]

set_option maxHeartbeats 4000000 in
set_option maxRecDepth 100000 in
theorem counts_calls (x y z : Int) (A : Option Addr) (c : Nat) (b : List Int) (w : World) (hv : Vars w) (hB : 2 ≤ w.heap.size) (hb : ArgBytes w A c b) :
    Calls Tryd.prog 4 #[.agg #[.int .i64 x, .int .i64 y, .int .i64 z], .slice A b.length c] w (TruePost w) := by
  have HV := Aside0.mk (And.intro hv hB)
  have HB := Aside0.mk hb
  clear hv hB hb
  have hal := (Below.refl w.heap.size w).alloc (Nat.le_refl _) (.cells #[.int .i64 x, .int .i64 y, .int .i64 z] 23)
  have HAL := Aside0.mk hal
  have HVA := Aside0.mk (HV.out.1.below hal)
  have HSA : Aside0 (2 ≤ (w.alloc (.cells #[.int .i64 x, .int .i64 y, .int .i64 z] 23)).heap.size) := ⟨Nat.le_trans HV.out.2 hal.size⟩
  clear hal
  by_cases h1 : 400 < (b.length : Int)
  · have b1 : decide (400 < (b.length : Int)) = true := decide_eq_true h1
    clear h1
    go_enter Tryd.func4, Tryd.ntmps4
    go_wp2_with fail
    refine (wakes_calls _ HVA.out HSA.out).mono ?_
    rintro e w1 ⟨rfl, hb1⟩
    have HB1 := Aside0.mk (below_then HAL.out HAL.out.size hb1)
    clear hb1
    go_wp2_with fail
    go_ret
    exact ⟨rfl, HB1.out⟩
  have b1 : decide (400 < (b.length : Int)) = false := decide_eq_false h1
  have H1 := Aside0.mk h1
  clear h1
  cases h3 : limB x y z with
  | false =>
    have H3 := Aside0.mk ((right_f x y z).trans (congrArg some h3))
    clear h3
    go_enter Tryd.func4, Tryd.ntmps4
    go_wp2_with fail
    refine (wakes_calls _ HVA.out HSA.out).mono ?_
    rintro e w1 ⟨rfl, hb1⟩
    have l0 := (hb1.cell (p := ⟨w.heap.size, 0, none⟩) (by simp)).trans (World.cell?_alloc_new w #[.int .i64 x, .int .i64 y, .int .i64 z] 23 0)
    have l1 := (hb1.cell (p := ⟨w.heap.size, 1, none⟩) (by simp)).trans (World.cell?_alloc_new w #[.int .i64 x, .int .i64 y, .int .i64 z] 23 1)
    have l2 := (hb1.cell (p := ⟨w.heap.size, 2, none⟩) (by simp)).trans (World.cell?_alloc_new w #[.int .i64 x, .int .i64 y, .int .i64 z] 23 2)
    have HB1 := Aside0.mk (below_then HAL.out HAL.out.size hb1)
    clear hb1
    go_wp2_with (first | (go_at_call 16; refine (catchpitref08_Right.calls x y z false _ H3.out).mono ?_; rintro e w2 ⟨rfl, h⟩))
    go_ret
    exact ⟨rfl, below_then HB1.out HB1.out.size h⟩
  | true =>
    have H3 := Aside0.mk ((right_f x y z).trans (congrArg some h3))
    have HL := Aside0.mk h3
    clear h3
    obtain ⟨hk, he⟩ := putG_all (b := b) (dc0_inv HL.out)
    obtain ⟨⟨d1, n1, o1⟩, hq⟩ : ∃ q, runB b (dc0 x y z) = q := ⟨_, rfl⟩
    rw [hq] at hk he
    have HQ := Aside0.mk hq
    have HK := Aside0.mk hk
    have HE := Aside0.mk he
    have hg1 : (o1.length : Int) ≤ n1 := by have := he.out1; simpa using this
    have bg : decide (n1 < (o1.length : Int)) = false := decide_eq_false (by omega)
    have HGG : Aside0 ((dc0 x y z).given + (o1.length : Int) = (o1.length : Int)) := ⟨by simp [dc0]⟩
    have HTT : Aside0 ((dc0 x y z).taken + n1 = n1) := ⟨by simp [dc0]⟩
    clear hk hq he hg1
    by_cases hp : d1.place = 11
    all_goals
      first
      | have bp : (d1.place == 11) = true := beq_iff_eq.mpr hp
      | have bp : (d1.place == 11) = false := beq_eq_false_iff_ne.mpr hp
      have HP := Aside0.mk hp
      clear hp
      go_enter Tryd.func4, Tryd.ntmps4
      go_wp2_with fail
      refine (wakes_calls _ HVA.out HSA.out).mono ?_
      rintro e w1 ⟨rfl, hb1⟩
      have l0 := (hb1.cell (p := ⟨w.heap.size, 0, none⟩) (by simp)).trans (World.cell?_alloc_new w #[.int .i64 x, .int .i64 y, .int .i64 z] 23 0)
      have l1 := (hb1.cell (p := ⟨w.heap.size, 1, none⟩) (by simp)).trans (World.cell?_alloc_new w #[.int .i64 x, .int .i64 y, .int .i64 z] 23 1)
      have l2 := (hb1.cell (p := ⟨w.heap.size, 2, none⟩) (by simp)).trans (World.cell?_alloc_new w #[.int .i64 x, .int .i64 y, .int .i64 z] 23 2)
      have HW := Aside0.mk (show w.heap.size < w1.heap.size from Nat.lt_of_lt_of_le (by simp) hb1.size)
      have HB1 := Aside0.mk (below_then HAL.out HAL.out.size hb1)
      clear hb1
      go_wp2_with (first | (go_at_call 16; refine (catchpitref08_Right.calls x y z true _ H3.out).mono ?_; rintro e w2 ⟨rfl, hb2⟩; have m0 := (hb2.cell (p := ⟨w.heap.size, 0, none⟩) HW.out).trans l0; have m1 := (hb2.cell (p := ⟨w.heap.size, 1, none⟩) HW.out).trans l1; have m2 := (hb2.cell (p := ⟨w.heap.size, 2, none⟩) HW.out).trans l2; have HW2 := Aside0.mk (Nat.lt_of_lt_of_le HW.out hb2.size); have HB2 := Aside0.mk (below_then HB1.out HB1.out.size hb2); clear hb2 l0 l1 l2))
      refine (new_yes x y z _ HL.out).mono ?_
      rintro e w3 ⟨g, rfl, hg, hd, hb3⟩
      have HD := Aside0.mk hd
      have HG := Aside0.mk hg
      have HB3 := Aside0.mk (below_then HB2.out HB2.out.size hb3)
      have i0 := (hb3.cell (p := ⟨w.heap.size, 0, none⟩) HW2.out).trans m0
      have i1 := (hb3.cell (p := ⟨w.heap.size, 1, none⟩) HW2.out).trans m1
      have i2 := (hb3.cell (p := ⟨w.heap.size, 2, none⟩) HW2.out).trans m2
      have HI3 := Aside0.mk (And.intro i0 (And.intro i1 i2))
      clear hb3 hd hg m0 m1 m2 i0 i1 i2
      go_wp2_with fail
      have hab := HB.out.below HB3.out
      refine (put_calls HD.out (Nat.le_trans HV.out.2 HB2.out.size) (HV.out.1.below HB3.out) (dc0_inv HL.out) (by simp [dc0]) A b c hab.reads hab.cap hab.range (by have := H1.out; omega) (fun ad ea en => ⟨by have := HB.out.lt ad ea en; have := HG.out; have := HB2.out.size; omega, fun h => h⟩) (b.length + 2) _ HK.out).mono ?_
      rintro e w4 ⟨vo4, Sd4, So4, rfl, hq4⟩
      have HP4 := Aside0.mk hq4
      have hb4 := below_less hq4.below HB2.out.size
      have HB4 := Aside0.mk (HB3.out.trans hb4)
      obtain ⟨A4, c4, rfl⟩ := Kd.R_slice hq4.out
      have j0 := (hq4.below.cell (p := ⟨w.heap.size, 0, none⟩) HW2.out).trans HI3.out.1
      have j1 := (hq4.below.cell (p := ⟨w.heap.size, 1, none⟩) HW2.out).trans HI3.out.2.1
      have j2 := (hq4.below.cell (p := ⟨w.heap.size, 2, none⟩) HW2.out).trans HI3.out.2.2
      clear hq4 hab hb4
      dsimp only
      go_wp2_with (first | (go_at_call 22; refine (given_calls HP4.out.dc).mono ?_; rintro e w5 ⟨rfl, rfl⟩; dsimp only; rw [HGG.out]) | (go_at_call 20; refine (taken_calls HP4.out.dc).mono ?_; rintro e w5 ⟨rfl, rfl⟩; dsimp only; rw [HTT.out]))
      have hab4 := HB.out.below HB4.out
      refine (scan_calls x y z A c b _ hab4 (by have := H1.out; omega) HL.out).mono ?_
      rintro e w5 ⟨dG, data, v6, v7, a, E, rfl, hs, hr5, hb5⟩
      obtain ⟨A6, c6, rfl⟩ := Kd.R_slice hr5.data
      obtain ⟨A7, c7, rfl⟩ := Kd.R_slice hr5.fields
      have ha : a = n1 := by rw [hs.at_, HQ.out]
      subst ha
      have HSI := Aside0.mk hs
      have HD5 := Aside0.mk (HP4.out.dc.below hb5)
      have HB5 := Aside0.mk (below_then HB4.out HB4.out.size hb5)
      clear hs hr5 hb5 hab4 j0 j1 j2
      dsimp only [gCells]
      first
      | (have hE : E = 0 := by
           have h := HSI.out.err
           rw [h]
           exact endE_done (by rw [HQ.out]; exact HP.out)
         subst hE
         go_wp2_with (first | (go_at_call 19; refine (done_calls (HD5.out.below ((Below.refl _ _).alloc (Nat.le_refl _) _))).mono ?_; rintro e w6 ⟨rfl, rfl⟩; dsimp only))
         go_ret
         exact ⟨rfl, HB5.out.alloc HB5.out.size _⟩)
      | (go_wp2_with (first | (go_at_call 19; refine (done_calls (HD5.out.below ((Below.refl _ _).alloc (Nat.le_refl _) _))).mono ?_; rintro e w6 ⟨rfl, rfl⟩; dsimp only))
         go_ret
         exact ⟨rfl, HB5.out.alloc HB5.out.size _⟩)
end Go.Proofs.YtebjfgkgfgbndaaDoor
