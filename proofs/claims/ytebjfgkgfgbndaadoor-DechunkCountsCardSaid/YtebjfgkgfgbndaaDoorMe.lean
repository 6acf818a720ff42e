/- the example; DechunkStays: contracts (walks) and plain laws over this seat's translation. -/
import Derived.Test.YtebjfgkgfgbndaaDoorMd
import Derived.Lib.SlBytesConst
namespace Go.Proofs.YtebjfgkgfgbndaaDoor
open Go.RowKit Go.Proofs.YtebjfgkgfgbndaaDoorW.PrintWords Go.Proofs.YtebjfgkgfgbndaaDoorW.PrintLast Go.Proofs.YtebjfgkgfgbndaaDoorW.PrintMore
open PBodyScans
set_option linter.unusedVariables false
set_option linter.unusedSimpArgs false

/-- A slice just built of bytes, as it reads. -/
theorem reads_new (W : World) (b : List Int) (cells : Array Value) (hc : cells = (b.map (Value.int .u8)).toArray) (T : TypeId) (F : Nat × Nat) :
    b.length ≤ 1000000 → ReadsInt (W.alloc (.cells cells T F)) .u8 (some ⟨W.heap.size, 0, none⟩) b.length b := by
  subst hc
  intro hbl
  refine ⟨rfl, by omega, fun hn => ⟨_, rfl, fun j hj => ?_⟩⟩
  · have ha : (⟨W.heap.size, 0, none⟩ : Addr).add j = ⟨W.heap.size, 0 + j, none⟩ := by unfold Addr.add; split <;> simp_all
    rw [ha, Nat.zero_add]
    unfold World.cell?
    rw [heap_alloc_new]
    simp [List.getD_eq_getElem?_getD, List.getElem?_eq_getElem hj]

theorem wake2x : ∃ d, putG [13, 10, 97, 98] 6 { dc0 0 0 0 with n := 3, count := 1, taken := 1 } 0 [] = some (d, 4, [97, 98]) ∧ d.e = 0 ∧ d.n = 1 ∧ d.place = 3 := ⟨_, wake2, rfl, rfl, rfl⟩
theorem dwake_inv : DInv { dc0 0 0 0 with n := 3, count := 1, taken := 1 } := by
  refine ⟨⟨?_, ?_, ?_, ?_, ?_, ?_, ?_, ?_, ?_, ?_, ?_, ?_, ?_, ?_, ?_, ?_⟩, ?_, ?_, ?_, ?_, ?_, ?_⟩ <;> simp [dc0]

set_option maxHeartbeats 4000000 in
set_option maxRecDepth 100000 in
theorem wakes_calls (w : World) (hv : Vars w) (hB : 2 ≤ w.heap.size) :
    Calls Tryd.prog 15 #[] w fun e w' => e = .returned (.bool true) ∧ Below w.heap.size w w' := by
  have HV := Aside0.mk (And.intro hv hB)
  have kc := fun (w : World) (C : Array Value) (n c : Nat) => Lib.run_convert_bytes_const (P := Tryd.prog) w 24 5 C n c Tryd.underlying24 Tryd.underlying5
  clear hv hB
  go_enter Tryd.func15, Tryd.ntmps15
  go_wp2_with fail
  refine (new_yes 0 0 0 _ rfl).mono ?_
  rintro e w1 ⟨g, rfl, hg, hd, hb1⟩
  have HD := Aside0.mk hd
  have HB1 := Aside0.mk hb1
  clear hd hb1
  go_wp2_with fail
  have ew : (w1.alloc (.cells #[.int .u8 51] 5 (1, 2))).heap.size = w1.heap.size + 1 := by simp
  have hal := (Below.refl w1.heap.size w1).alloc (Nat.le_refl _) (.cells #[.int .u8 51] 5 (1, 2))
  refine (put_calls (HD.out.below hal) HV.out.2 ((HV.out.1.below HB1.out).below hal) (dc0_inv rfl) (by simp [dc0]) (some ⟨w1.heap.size, 0, none⟩) [51] 1 (reads_new w1 [51] _ rfl 5 (1, 2) (by decide)) (by decide) (by decide) (by decide) (by rintro ad e -; simp only [Option.some.injEq] at e; subst e; exact ⟨by have := HD.out.lt; show w1.heap.size ≠ g; omega, fun h => h⟩) 3 _ wake1).mono ?_
  rintro e w2 ⟨vo, Sd, So, rfl, hp⟩
  have HP := Aside0.mk hp
  clear hp hal ew
  go_wp2_with fail
  obtain ⟨d3, hd3, he3, hn3, hp3⟩ := wake2x
  have hal := (Below.refl w2.heap.size w2).alloc (Nat.le_refl _) (.cells #[.int .u8 13, .int .u8 10, .int .u8 97, .int .u8 98] 5 (4, 5))
  have hal1 := (Below.refl w1.heap.size w1).alloc (Nat.le_refl _) (.cells #[.int .u8 51] 5 (1, 2))
  have HW2 := HP.out.vars ((HV.out.1.below HB1.out).below hal1) HV.out.2
  refine (put_calls (d := { dc0 0 0 0 with n := 3, count := 1, taken := 1 }) (HP.out.dc.bound.below hal) HV.out.2 (HW2.below hal) dwake_inv (by simp [dc0]) (some ⟨w2.heap.size, 0, none⟩) [13, 10, 97, 98] 4 (reads_new w2 [13, 10, 97, 98] _ rfl 5 (4, 5) (by decide)) (by decide) (by decide) (by decide) (by rintro ad e -; simp only [Option.some.injEq] at e; subst e; exact ⟨by have := HP.out.dc.lt; show w2.heap.size ≠ g; omega, fun h => by have := h.2; simp at this⟩) 6 _ hd3).mono ?_
  rintro e w3 ⟨vo3, Sd3, So3, rfl, hq3⟩
  dsimp only
  rw [he3]
  have HP3 := Aside0.mk hq3
  obtain ⟨A, c, rfl, hle, hcv⟩ := conv_take hq3.out
  have hcv2 : (convert 24 9 (.slice A 2 c)).run Tryd.prog w3 = .ok (.string ⟨#[97, 98]⟩) w3 := hcv 2 (Nat.le_refl 2) w3 (Below.refl _ _)
  have HLF : Aside0 (dcLeft { d3 with taken := ({ dc0 0 0 0 with n := 3, count := 1, taken := 1 } : Dc).taken + (d3, (4 : Int), [(97 : Int), 98]).2.1, given := ({ dc0 0 0 0 with n := 3, count := 1, taken := 1 } : Dc).given + ((d3, (4 : Int), [(97 : Int), 98]).2.2.length : Int) } = 1) := ⟨by unfold dcLeft; rw [if_pos hp3]; exact hn3⟩
  have HL := Aside0.mk ((((HB1.out.alloc HB1.out.size (.cells #[.int .u8 51] 5 (1, 2))).trans HP.out.below).alloc HP.out.dc.le (.cells #[.int .u8 13, .int .u8 10, .int .u8 97, .int .u8 98] 5 (4, 5))).trans HP3.out.below)
  clear hd3 hp3 hn3 he3 hq3 hal hle hcv hal1 HW2
  go_wp2_with (first | (go_at_call 25; refine (left_calls HP3.out.dc).mono ?_; rintro e w4 ⟨rfl, rfl⟩; rw [HLF.out]))
  go_ret
  exact ⟨rfl, HL.out⟩
end Go.Proofs.YtebjfgkgfgbndaaDoor

namespace Go.Proofs.YtebjfgkgfgbndaaDoor
open Go.RowKit Go.Proofs.YtebjfgkgfgbndaaDoorW.PrintWords Go.Proofs.YtebjfgkgfgbndaaDoorW.PrintLast Go.Proofs.YtebjfgkgfgbndaaDoorW.PrintMore
open PBodyScans
set_option linter.unusedVariables false
set_option linter.unusedSimpArgs false

/-- Bytes that a caller handed in. -/
structure ArgBytes (w : World) (A : Option Addr) (c : Nat) (b : List Int) : Prop where
  reads : ReadsInt w .u8 A b.length b
  cap : b.length ≤ c
  range : ∀ x ∈ b, 0 ≤ x ∧ x ≤ 255
theorem ArgBytes.lt {w : World} {A : Option Addr} {c : Nat} {b : List Int} (h : ArgBytes w A c b) (ad : Addr) (e : A = some ad) (hn : 0 < b.length) : ad.block < w.heap.size := by
  obtain ⟨ad', e', hc⟩ := h.reads.2.2 hn
  obtain rfl := Option.some.inj (e'.symm.trans e)
  have h0 := World.block_lt_of_cell? w _ (hc 0 hn)
  have hblk : (ad'.add 0).block = ad'.block := by unfold Addr.add; split <;> rfl
  rwa [hblk] at h0
theorem ArgBytes.below {w w' : World} {A : Option Addr} {c : Nat} {b : List Int} (h : ArgBytes w A c b) (hb : Below w.heap.size w w') : ArgBytes w' A c b :=
  ⟨h.reads.below hb, h.cap, h.range⟩

theorem DInv.tg {d : Dc} (h : DInv d) (x y : Int) : DInv { d with taken := x, given := y } := by
  obtain ⟨⟨a1, a2, a3, a4, a5, a6, a7, a8, a9, a10, a11, a12, a13, a14, a15, a16⟩, b1, b2, b3, b4, b5, b6⟩ := h
  exact ⟨⟨a1, a2, a3, a4, a5, a6, a7, a8, a9, a10, a11, a12, a13, a14, a15, a16⟩, b1, b2, b3, b4, b5, b6⟩
theorem below_less {B B' : Nat} {w w' : World} (h : Below B w w') (hb : B' ≤ B) : Below B' w w' := ⟨h.os, h.tape, h.output, h.size, fun k hk => h.block k (Nat.lt_of_lt_of_le hk hb)⟩
def TruePost (w : World) (e : Ending) (w' : World) : Prop := e = .returned (.bool true) ∧ Below w.heap.size w w'

set_option maxHeartbeats 4000000 in
set_option maxRecDepth 100000 in
theorem stays_calls (x y z : Int) (A : Option Addr) (c : Nat) (b : List Int) (A2 : Option Addr) (c2 : Nat) (m : List Int) (w : World) (hv : Vars w) (hB : 2 ≤ w.heap.size) (hb : ArgBytes w A c b) (hm : ArgBytes w A2 c2 m) :
    Calls Tryd.prog 3 #[.agg #[.int .i64 x, .int .i64 y, .int .i64 z], .slice A b.length c, .slice A2 m.length c2] w (TruePost w) := by
  have HV := Aside0.mk (And.intro hv hB)
  have HB := Aside0.mk hb
  have HM := Aside0.mk hm
  clear hv hB hb hm
  have hal := (Below.refl w.heap.size w).alloc (Nat.le_refl _) (.cells #[.int .i64 x, .int .i64 y, .int .i64 z] 23)
  have HAL := Aside0.mk hal
  have HVA := Aside0.mk (HV.out.1.below hal)
  have HSA : Aside0 (2 ≤ (w.alloc (.cells #[.int .i64 x, .int .i64 y, .int .i64 z] 23)).heap.size) := ⟨Nat.le_trans HV.out.2 hal.size⟩
  clear hal
  by_cases h1 : 400 < (b.length : Int)
  · have b1 : decide (400 < (b.length : Int)) = true := decide_eq_true h1
    clear h1
    go_enter Tryd.func3, Tryd.ntmps3
    go_wp2_with fail
    refine (wakes_calls _ HVA.out HSA.out).mono ?_
    rintro e w1 ⟨rfl, hb1⟩
    have HB1 := Aside0.mk (below_then HAL.out HAL.out.size hb1)
    clear hb1
    go_wp2_with fail
    go_ret
    exact ⟨rfl, HB1.out⟩
  have b1 : decide (400 < (b.length : Int)) = false := decide_eq_false h1
  have H1 := Aside0.mk h1
  clear h1
  by_cases h2 : 200 < (m.length : Int)
  · have b2 : decide (200 < (m.length : Int)) = true := decide_eq_true h2
    clear h2
    go_enter Tryd.func3, Tryd.ntmps3
    go_wp2_with fail
    refine (wakes_calls _ HVA.out HSA.out).mono ?_
    rintro e w1 ⟨rfl, hb1⟩
    have HB1 := Aside0.mk (below_then HAL.out HAL.out.size hb1)
    clear hb1
    go_wp2_with fail
    go_ret
    exact ⟨rfl, HB1.out⟩
  have b2 : decide (200 < (m.length : Int)) = false := decide_eq_false h2
  have H2 := Aside0.mk h2
  clear h2
  cases h3 : limB x y z with
  | false =>
    have H3 := Aside0.mk ((right_f x y z).trans (congrArg some h3))
    clear h3
    go_enter Tryd.func3, Tryd.ntmps3
    go_wp2_with fail
    refine (wakes_calls _ HVA.out HSA.out).mono ?_
    rintro e w1 ⟨rfl, hb1⟩
    have l0 := (hb1.cell (p := ⟨w.heap.size, 0, none⟩) (by simp)).trans (World.cell?_alloc_new w #[.int .i64 x, .int .i64 y, .int .i64 z] 23 0)
    have l1 := (hb1.cell (p := ⟨w.heap.size, 1, none⟩) (by simp)).trans (World.cell?_alloc_new w #[.int .i64 x, .int .i64 y, .int .i64 z] 23 1)
    have l2 := (hb1.cell (p := ⟨w.heap.size, 2, none⟩) (by simp)).trans (World.cell?_alloc_new w #[.int .i64 x, .int .i64 y, .int .i64 z] 23 2)
    have HB1 := Aside0.mk (below_then HAL.out HAL.out.size hb1)
    clear hb1
    go_wp2_with (first | (go_at_call 16; refine (catchpitref08_Right.calls x y z false _ H3.out).mono ?_; rintro e w2 ⟨rfl, h⟩))
    go_ret
    exact ⟨rfl, below_then HB1.out HB1.out.size h⟩
  | true =>
    have H3 := Aside0.mk ((right_f x y z).trans (congrArg some h3))
    have HL := Aside0.mk h3
    clear h3
    obtain ⟨⟨d1, n1, o1⟩, hk, he⟩ := putG_ends b (b.length + 2) (dc0 x y z) 0 [] (dc0_inv HL.out) (Int.le_refl 0) (by omega) (.inl (by omega))
    have HK := Aside0.mk hk
    have HE := Aside0.mk he
    clear hk
    by_cases hgo : d1.e = 0 ∧ d1.place ≠ 11
    · have hb0 : (d1.e == 0) = true := beq_iff_eq.mpr hgo.1
      have hp0 : (d1.place == 11) = false := beq_eq_false_iff_ne.mpr hgo.2
      obtain rfl : n1 = (b.length : Int) := he.stop hgo.1 hgo.2
      clear hgo he
      go_enter Tryd.func3, Tryd.ntmps3
      go_wp2_with fail
      refine (wakes_calls _ HVA.out HSA.out).mono ?_
      rintro e w1 ⟨rfl, hb1⟩
      have l0 := (hb1.cell (p := ⟨w.heap.size, 0, none⟩) (by simp)).trans (World.cell?_alloc_new w #[.int .i64 x, .int .i64 y, .int .i64 z] 23 0)
      have l1 := (hb1.cell (p := ⟨w.heap.size, 1, none⟩) (by simp)).trans (World.cell?_alloc_new w #[.int .i64 x, .int .i64 y, .int .i64 z] 23 1)
      have l2 := (hb1.cell (p := ⟨w.heap.size, 2, none⟩) (by simp)).trans (World.cell?_alloc_new w #[.int .i64 x, .int .i64 y, .int .i64 z] 23 2)
      have HW := Aside0.mk (show w.heap.size < w1.heap.size from Nat.lt_of_lt_of_le (by simp) hb1.size)
      have HB1 := Aside0.mk (below_then HAL.out HAL.out.size hb1)
      clear hb1
      go_wp2_with (first | (go_at_call 16; refine (catchpitref08_Right.calls x y z true _ H3.out).mono ?_; rintro e w2 ⟨rfl, hb2⟩; have m0 := (hb2.cell (p := ⟨w.heap.size, 0, none⟩) HW.out).trans l0; have m1 := (hb2.cell (p := ⟨w.heap.size, 1, none⟩) HW.out).trans l1; have m2 := (hb2.cell (p := ⟨w.heap.size, 2, none⟩) HW.out).trans l2; have HB2 := Aside0.mk (below_then HB1.out HB1.out.size hb2); clear hb2))
      refine (new_yes x y z _ HL.out).mono ?_
      rintro e w3 ⟨g, rfl, hg, hd, hb3⟩
      have HD := Aside0.mk hd
      have HG := Aside0.mk hg
      have HB3 := Aside0.mk (below_then HB2.out HB2.out.size hb3)
      clear hb3 hd hg
      go_wp2_with fail
      have hab := HB.out.below HB3.out
      refine (put_calls HD.out (Nat.le_trans HV.out.2 HB2.out.size) (HV.out.1.below HB3.out) (dc0_inv HL.out) (by simp [dc0]) A b c hab.reads hab.cap hab.range (by have := H1.out; omega) (fun ad ea en => ⟨by have := HB.out.lt ad ea en; have := HG.out; have := HB2.out.size; omega, fun h => h⟩) (b.length + 2) _ HK.out).mono ?_
      rintro e w4 ⟨vo4, Sd4, So4, rfl, hq4⟩
      have HP4 := Aside0.mk hq4
      have HB4 := Aside0.mk (HB3.out.trans (below_less hq4.below HB2.out.size))
      obtain ⟨A4, c4, rfl⟩ := Kd.R_slice hq4.out
      clear hq4 hab
      go_wp2_with (first | (go_at_call 19; refine (done_calls HP4.out.dc).mono ?_; rintro e w5 ⟨rfl, rfl⟩))
      go_ret
      exact ⟨rfl, HB4.out⟩
    by_cases h0 : d1.e = 0
    · have hb0 : (d1.e == 0) = true := beq_iff_eq.mpr h0
      have h11 : d1.place = 11 := by by_cases h : d1.place = 11; exact h; exact absurd ⟨h0, h⟩ hgo
      have hp0 : (d1.place == 11) = true := beq_iff_eq.mpr h11
      have HS1 : d1.e ≠ 0 ∨ d1.place = 11 := .inr h11
      clear hgo he h0 h11
      have HTT : Aside0 ((dc0 x y z).taken + n1 + 0 = n1) := ⟨by simp [dc0]⟩
      have HST : Aside0 (({ d1 with taken := (dc0 x y z).taken + n1, given := (dc0 x y z).given + (o1.length : Int) } : Dc).e ≠ 0 ∨ ({ d1 with taken := (dc0 x y z).taken + n1, given := (dc0 x y z).given + (o1.length : Int) } : Dc).place = 11) := ⟨HS1⟩
      clear HS1
      go_enter Tryd.func3, Tryd.ntmps3
      go_wp2_with fail
      refine (wakes_calls _ HVA.out HSA.out).mono ?_
      rintro e w1 ⟨rfl, hb1⟩
      have l0 := (hb1.cell (p := ⟨w.heap.size, 0, none⟩) (by simp)).trans (World.cell?_alloc_new w #[.int .i64 x, .int .i64 y, .int .i64 z] 23 0)
      have l1 := (hb1.cell (p := ⟨w.heap.size, 1, none⟩) (by simp)).trans (World.cell?_alloc_new w #[.int .i64 x, .int .i64 y, .int .i64 z] 23 1)
      have l2 := (hb1.cell (p := ⟨w.heap.size, 2, none⟩) (by simp)).trans (World.cell?_alloc_new w #[.int .i64 x, .int .i64 y, .int .i64 z] 23 2)
      have HW := Aside0.mk (show w.heap.size < w1.heap.size from Nat.lt_of_lt_of_le (by simp) hb1.size)
      have HB1 := Aside0.mk (below_then HAL.out HAL.out.size hb1)
      clear hb1
      go_wp2_with (first | (go_at_call 16; refine (catchpitref08_Right.calls x y z true _ H3.out).mono ?_; rintro e w2 ⟨rfl, hb2⟩; have m0 := (hb2.cell (p := ⟨w.heap.size, 0, none⟩) HW.out).trans l0; have m1 := (hb2.cell (p := ⟨w.heap.size, 1, none⟩) HW.out).trans l1; have m2 := (hb2.cell (p := ⟨w.heap.size, 2, none⟩) HW.out).trans l2; have HB2 := Aside0.mk (below_then HB1.out HB1.out.size hb2); clear hb2))
      refine (new_yes x y z _ HL.out).mono ?_
      rintro e w3 ⟨g, rfl, hg, hd, hb3⟩
      have HD := Aside0.mk hd
      have HG := Aside0.mk hg
      have HB3 := Aside0.mk (below_then HB2.out HB2.out.size hb3)
      clear hb3 hd hg
      go_wp2_with fail
      have hab := HB.out.below HB3.out
      refine (put_calls HD.out (Nat.le_trans HV.out.2 HB2.out.size) (HV.out.1.below HB3.out) (dc0_inv HL.out) (by simp [dc0]) A b c hab.reads hab.cap hab.range (by have := H1.out; omega) (fun ad ea en => ⟨by have := HB.out.lt ad ea en; have := HG.out; have := HB2.out.size; omega, fun h => h⟩) (b.length + 2) _ HK.out).mono ?_
      rintro e w4 ⟨vo4, Sd4, So4, rfl, hq4⟩
      have HP4 := Aside0.mk hq4
      have HB4 := Aside0.mk (HB3.out.trans (below_less hq4.below HB2.out.size))
      obtain ⟨A4, c4, rfl⟩ := Kd.R_slice hq4.out
      clear hq4 hab
      dsimp only
      go_wp2_with (first | (go_at_call 19; refine (done_calls HP4.out.dc).mono ?_; rintro e w5 ⟨rfl, rfl⟩; dsimp only))
      have ham := HM.out.below HB4.out
      have HT4 := Aside0.mk (show (dc0 x y z).taken + n1 = n1 by simp [dc0])
      refine (put_calls (d := { d1 with taken := (dc0 x y z).taken + n1, given := (dc0 x y z).given + (o1.length : Int) }) HP4.out.dc (Nat.le_trans HV.out.2 HB2.out.size) (HV.out.1.below HB4.out) (DInv.tg HE.out.inv _ _) ⟨by have := HE.out.n0; show 0 ≤ (dc0 x y z).taken + n1; rw [HT4.out]; exact this, by have := HE.out.n1; have := H1.out; show (dc0 x y z).taken + n1 ≤ _; rw [HT4.out]; simp only at *; omega, by show 0 ≤ 0 + (o1.length : Int); omega, by have := HE.out.out1; have := HE.out.n1; have := H1.out; show 0 + (o1.length : Int) ≤ _; simp only [List.length_nil] at *; omega⟩ A2 m c2 ham.reads ham.cap ham.range (by have := H2.out; omega) (fun ad ea en => by have h1 := HM.out.lt ad ea en; have h2 := HG.out; have h3 := HB2.out.size; have h4 := HB3.out.size; exact ⟨by omega, fun h => (HP4.out.sd _ h).elim (fun h => h) (fun h => by omega)⟩) 1 _ (putG_still m 0 _ 0 [] HST.out)).mono ?_
      rintro e w5 ⟨vo5, Sd5, So5, rfl, hq5⟩
      have HP5 := Aside0.mk hq5
      have HB5 := Aside0.mk (HB4.out.trans (below_less hq5.below HB2.out.size))
      obtain ⟨A5, c5, rfl⟩ := Kd.R_slice hq5.out
      clear hq5 ham
      dsimp only
      go_wp2_with (first | (go_at_call 20; refine (taken_calls HP5.out.dc).mono ?_; rintro e w6 ⟨rfl, rfl⟩; dsimp only; rw [HTT.out]) | (go_at_call 21; refine (err_calls HP5.out.dc).mono ?_; rintro e w6 ⟨rfl, rfl⟩; dsimp only))
      go_ret
      exact ⟨rfl, HB5.out⟩
    · have hb0 : (d1.e == 0) = false := beq_eq_false_iff_ne.mpr h0
      have HS1 : d1.e ≠ 0 ∨ d1.place = 11 := .inl h0
      clear hgo he h0
      have HTT : Aside0 ((dc0 x y z).taken + n1 + 0 = n1) := ⟨by simp [dc0]⟩
      have HST : Aside0 (({ d1 with taken := (dc0 x y z).taken + n1, given := (dc0 x y z).given + (o1.length : Int) } : Dc).e ≠ 0 ∨ ({ d1 with taken := (dc0 x y z).taken + n1, given := (dc0 x y z).given + (o1.length : Int) } : Dc).place = 11) := ⟨HS1⟩
      clear HS1
      go_enter Tryd.func3, Tryd.ntmps3
      go_wp2_with fail
      refine (wakes_calls _ HVA.out HSA.out).mono ?_
      rintro e w1 ⟨rfl, hb1⟩
      have l0 := (hb1.cell (p := ⟨w.heap.size, 0, none⟩) (by simp)).trans (World.cell?_alloc_new w #[.int .i64 x, .int .i64 y, .int .i64 z] 23 0)
      have l1 := (hb1.cell (p := ⟨w.heap.size, 1, none⟩) (by simp)).trans (World.cell?_alloc_new w #[.int .i64 x, .int .i64 y, .int .i64 z] 23 1)
      have l2 := (hb1.cell (p := ⟨w.heap.size, 2, none⟩) (by simp)).trans (World.cell?_alloc_new w #[.int .i64 x, .int .i64 y, .int .i64 z] 23 2)
      have HW := Aside0.mk (show w.heap.size < w1.heap.size from Nat.lt_of_lt_of_le (by simp) hb1.size)
      have HB1 := Aside0.mk (below_then HAL.out HAL.out.size hb1)
      clear hb1
      go_wp2_with (first | (go_at_call 16; refine (catchpitref08_Right.calls x y z true _ H3.out).mono ?_; rintro e w2 ⟨rfl, hb2⟩; have m0 := (hb2.cell (p := ⟨w.heap.size, 0, none⟩) HW.out).trans l0; have m1 := (hb2.cell (p := ⟨w.heap.size, 1, none⟩) HW.out).trans l1; have m2 := (hb2.cell (p := ⟨w.heap.size, 2, none⟩) HW.out).trans l2; have HB2 := Aside0.mk (below_then HB1.out HB1.out.size hb2); clear hb2))
      refine (new_yes x y z _ HL.out).mono ?_
      rintro e w3 ⟨g, rfl, hg, hd, hb3⟩
      have HD := Aside0.mk hd
      have HG := Aside0.mk hg
      have HB3 := Aside0.mk (below_then HB2.out HB2.out.size hb3)
      clear hb3 hd hg
      go_wp2_with fail
      have hab := HB.out.below HB3.out
      refine (put_calls HD.out (Nat.le_trans HV.out.2 HB2.out.size) (HV.out.1.below HB3.out) (dc0_inv HL.out) (by simp [dc0]) A b c hab.reads hab.cap hab.range (by have := H1.out; omega) (fun ad ea en => ⟨by have := HB.out.lt ad ea en; have := HG.out; have := HB2.out.size; omega, fun h => h⟩) (b.length + 2) _ HK.out).mono ?_
      rintro e w4 ⟨vo4, Sd4, So4, rfl, hq4⟩
      have HP4 := Aside0.mk hq4
      have HB4 := Aside0.mk (HB3.out.trans (below_less hq4.below HB2.out.size))
      obtain ⟨A4, c4, rfl⟩ := Kd.R_slice hq4.out
      clear hq4 hab
      dsimp only
      go_wp2_with fail
      have ham := HM.out.below HB4.out
      have HT4 := Aside0.mk (show (dc0 x y z).taken + n1 = n1 by simp [dc0])
      refine (put_calls (d := { d1 with taken := (dc0 x y z).taken + n1, given := (dc0 x y z).given + (o1.length : Int) }) HP4.out.dc (Nat.le_trans HV.out.2 HB2.out.size) (HV.out.1.below HB4.out) (DInv.tg HE.out.inv _ _) ⟨by have := HE.out.n0; show 0 ≤ (dc0 x y z).taken + n1; rw [HT4.out]; exact this, by have := HE.out.n1; have := H1.out; show (dc0 x y z).taken + n1 ≤ _; rw [HT4.out]; simp only at *; omega, by show 0 ≤ 0 + (o1.length : Int); omega, by have := HE.out.out1; have := HE.out.n1; have := H1.out; show 0 + (o1.length : Int) ≤ _; simp only [List.length_nil] at *; omega⟩ A2 m c2 ham.reads ham.cap ham.range (by have := H2.out; omega) (fun ad ea en => by have h1 := HM.out.lt ad ea en; have h2 := HG.out; have h3 := HB2.out.size; have h4 := HB3.out.size; exact ⟨by omega, fun h => (HP4.out.sd _ h).elim (fun h => h) (fun h => by omega)⟩) 1 _ (putG_still m 0 _ 0 [] HST.out)).mono ?_
      rintro e w5 ⟨vo5, Sd5, So5, rfl, hq5⟩
      have HP5 := Aside0.mk hq5
      have HB5 := Aside0.mk (HB4.out.trans (below_less hq5.below HB2.out.size))
      obtain ⟨A5, c5, rfl⟩ := Kd.R_slice hq5.out
      clear hq5 ham
      dsimp only
      go_wp2_with (first | (go_at_call 20; refine (taken_calls HP5.out.dc).mono ?_; rintro e w6 ⟨rfl, rfl⟩; dsimp only; rw [HTT.out]) | (go_at_call 21; refine (err_calls HP5.out.dc).mono ?_; rintro e w6 ⟨rfl, rfl⟩; dsimp only))
      go_ret
      exact ⟨rfl, HB5.out⟩
end Go.Proofs.YtebjfgkgfgbndaaDoor
