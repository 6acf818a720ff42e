/- The law's own example (wakes): a contract (walk) over this seat's translation. -/
import Derived.Test.YtebjfgkgfgbndaaDoorHl
import Derived.Lib.SlBytesConst
namespace Go.Proofs.YtebjfgkgfgbndaaDoor
open Go.RowKit Go.Proofs.YtebjfgkgfgbndaaDoorW.PrintWords Go.Proofs.YtebjfgkgfgbndaaDoorW.PrintLast Go.Proofs.YtebjfgkgfgbndaaDoorW.PrintMore
open PBodyScans
set_option linter.unusedVariables false
set_option linter.unusedSimpArgs false

/-- A slice just built of bytes, as it reads. -/
theorem reads_new (W : World) (b : List Int) (cells : Array Value) (hc : cells = (b.map (Value.int .u8)).toArray) (T : TypeId) (F : Nat × Nat) :
    b.length ≤ 1000000 → ReadsInt (W.alloc (.cells cells T F)) .u8 (some ⟨W.heap.size, 0, none⟩) b.length b := by
  subst hc
  intro hbl
  refine ⟨rfl, by omega, fun hn => ⟨_, rfl, fun j hj => ?_⟩⟩
  · have ha : (⟨W.heap.size, 0, none⟩ : Addr).add j = ⟨W.heap.size, 0 + j, none⟩ := by unfold Addr.add; split <;> simp_all
    rw [ha, Nat.zero_add]
    unfold World.cell?
    rw [heap_alloc_new]
    simp [List.getD_eq_getElem?_getD, List.getElem?_eq_getElem hj]

theorem wake2x : ∃ d, putG [13, 10, 97, 98] 6 { dc0 0 0 0 with n := 3, count := 1, taken := 1 } 0 [] = some (d, 4, [97, 98]) ∧ d.e = 0 ∧ d.n = 1 ∧ d.place = 3 := ⟨_, wake2, rfl, rfl, rfl⟩
theorem dwake_inv : DInv { dc0 0 0 0 with n := 3, count := 1, taken := 1 } := by
  refine ⟨⟨?_, ?_, ?_, ?_, ?_, ?_, ?_, ?_, ?_, ?_, ?_, ?_, ?_, ?_, ?_, ?_⟩, ?_, ?_, ?_, ?_, ?_, ?_⟩ <;> simp [dc0]

set_option maxHeartbeats 4000000 in
set_option maxRecDepth 100000 in
theorem wakes_calls (w : World) (hv : Vars w) (hB : 2 ≤ w.heap.size) :
    Calls Tryd.prog 15 #[] w fun e w' => e = .returned (.bool true) ∧ Below w.heap.size w w' := by
  have HV := Aside0.mk (And.intro hv hB)
  have kc := fun (w : World) (C : Array Value) (n c : Nat) => Lib.run_convert_bytes_const (P := Tryd.prog) w 24 5 C n c Tryd.underlying24 Tryd.underlying5
  clear hv hB
  go_enter Tryd.func15, Tryd.ntmps15
  go_wp2_with fail
  refine (new_yes 0 0 0 _ rfl).mono ?_
  rintro e w1 ⟨g, rfl, hg, hd, hb1⟩
  have HD := Aside0.mk hd
  have HB1 := Aside0.mk hb1
  clear hd hb1
  go_wp2_with fail
  have ew : (w1.alloc (.cells #[.int .u8 51] 5 (1, 2))).heap.size = w1.heap.size + 1 := by simp
  have hal := (Below.refl w1.heap.size w1).alloc (Nat.le_refl _) (.cells #[.int .u8 51] 5 (1, 2))
  refine (put_calls (HD.out.below hal) HV.out.2 ((HV.out.1.below HB1.out).below hal) (dc0_inv rfl) (by simp [dc0]) (some ⟨w1.heap.size, 0, none⟩) [51] 1 (reads_new w1 [51] _ rfl 5 (1, 2) (by decide)) (by decide) (by decide) (by decide) (by rintro ad e -; simp only [Option.some.injEq] at e; subst e; exact ⟨by have := HD.out.lt; show w1.heap.size ≠ g; omega, fun h => h⟩) 3 _ wake1).mono ?_
  rintro e w2 ⟨vo, Sd, So, rfl, hp⟩
  have HP := Aside0.mk hp
  clear hp hal ew
  go_wp2_with fail
  obtain ⟨d3, hd3, he3, hn3, hp3⟩ := wake2x
  have hal := (Below.refl w2.heap.size w2).alloc (Nat.le_refl _) (.cells #[.int .u8 13, .int .u8 10, .int .u8 97, .int .u8 98] 5 (4, 5))
  have hal1 := (Below.refl w1.heap.size w1).alloc (Nat.le_refl _) (.cells #[.int .u8 51] 5 (1, 2))
  have HW2 := HP.out.vars ((HV.out.1.below HB1.out).below hal1) HV.out.2
  refine (put_calls (d := { dc0 0 0 0 with n := 3, count := 1, taken := 1 }) (HP.out.dc.bound.below hal) HV.out.2 (HW2.below hal) dwake_inv (by simp [dc0]) (some ⟨w2.heap.size, 0, none⟩) [13, 10, 97, 98] 4 (reads_new w2 [13, 10, 97, 98] _ rfl 5 (4, 5) (by decide)) (by decide) (by decide) (by decide) (by rintro ad e -; simp only [Option.some.injEq] at e; subst e; exact ⟨by have := HP.out.dc.lt; show w2.heap.size ≠ g; omega, fun h => by have := h.2; simp at this⟩) 6 _ hd3).mono ?_
  rintro e w3 ⟨vo3, Sd3, So3, rfl, hq3⟩
  dsimp only
  rw [he3]
  have HP3 := Aside0.mk hq3
  obtain ⟨A, c, rfl, hle, hcv⟩ := conv_take hq3.out
  have hcv2 : (convert 24 9 (.slice A 2 c)).run Tryd.prog w3 = .ok (.string ⟨#[97, 98]⟩) w3 := hcv 2 (Nat.le_refl 2) w3 (Below.refl _ _)
  have HLF : Aside0 (dcLeft { d3 with taken := ({ dc0 0 0 0 with n := 3, count := 1, taken := 1 } : Dc).taken + (d3, (4 : Int), [(97 : Int), 98]).2.1, given := ({ dc0 0 0 0 with n := 3, count := 1, taken := 1 } : Dc).given + ((d3, (4 : Int), [(97 : Int), 98]).2.2.length : Int) } = 1) := ⟨by unfold dcLeft; rw [if_pos hp3]; exact hn3⟩
  have HL := Aside0.mk ((((HB1.out.alloc HB1.out.size (.cells #[.int .u8 51] 5 (1, 2))).trans HP.out.below).alloc HP.out.dc.le (.cells #[.int .u8 13, .int .u8 10, .int .u8 97, .int .u8 98] 5 (4, 5))).trans HP3.out.below)
  clear hd3 hp3 hn3 he3 hq3 hal hle hcv hal1 HW2
  go_wp2_with (first | (go_at_call 25; refine (left_calls HP3.out.dc).mono ?_; rintro e w4 ⟨rfl, rfl⟩; rw [HLF.out]))
  go_ret
  exact ⟨rfl, HL.out⟩
end Go.Proofs.YtebjfgkgfgbndaaDoor
