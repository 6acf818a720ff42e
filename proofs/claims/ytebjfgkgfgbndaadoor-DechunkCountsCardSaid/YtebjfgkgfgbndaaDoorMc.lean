/- way, Put: contracts (walks) and plain laws over this seat's translation. -/
import Derived.Test.YtebjfgkgfgbndaaDoorMb
import Derived.Laws.EntriesVeiled
namespace Go.Proofs.YtebjfgkgfgbndaaDoor
open Go.RowKit Go.Proofs.YtebjfgkgfgbndaaDoorW.PrintWords Go.Proofs.YtebjfgkgfgbndaaDoorW.PrintLast Go.Proofs.YtebjfgkgfgbndaaDoorW.PrintMore
open PBodyScans
set_option linter.unusedVariables false
set_option linter.unusedSimpArgs false

set_option maxRecDepth 100000 in
theorem way_0 {B g : Nat} {S : Nat → Prop} {d : Dc} {w : World} (h : DcAt w B g S d) (hp : d.place = 0) :
    Calls Tryd.prog 56 #[.pointer (some ⟨g, 0, none⟩)] w fun e w' => e = .returned (.agg #[.func (.func 75) #[] #[]]) ∧ Below w.heap.size w w' := by
  have c3 := h.get_place
  rw [hp] at c3
  have c3a : (w.alloc (.cells #[.nilFunc] 103)).cell? ⟨g, 3, none⟩ = some (.int .i64 0) := (World.cell?_alloc_lt w _ ⟨g, 3, none⟩ h.lt).trans c3
  have hi : ∀ w, (Instr.index 140 (.agg #[.func (.func 75) #[] #[], .func (.func 76) #[] #[], .func (.func 77) #[] #[], .func (.func 78) #[] #[], .func (.func 79) #[] #[], .func (.func 80) #[] #[], .func (.func 81) #[] #[], .func (.func 82) #[] #[], .func (.func 83) #[] #[], .func (.func 84) #[] #[], .func (.func 85) #[] #[], .func (.func 85) #[] #[]]) (.int .i64 0)).run Tryd.prog w = .ok (.agg #[.func (.func 75) #[] #[]]) w := fun _ => by kernel_rfl
  clear hp h
  go_enter Tryd.func56, Tryd.ntmps56
  go_wp2_with fail
  refine bodyPost_ret (v := .agg #[.func (.func 75) #[] #[]]) (by simp [results, Tryd.results56, go_sem]) rfl ⟨rfl, ?_⟩
  exact (Below.refl _ _).alloc (Nat.le_refl _) _

set_option maxRecDepth 100000 in
theorem way_1 {B g : Nat} {S : Nat → Prop} {d : Dc} {w : World} (h : DcAt w B g S d) (hp : d.place = 1) :
    Calls Tryd.prog 56 #[.pointer (some ⟨g, 0, none⟩)] w fun e w' => e = .returned (.agg #[.func (.func 76) #[] #[]]) ∧ Below w.heap.size w w' := by
  have c3 := h.get_place
  rw [hp] at c3
  have c3a : (w.alloc (.cells #[.nilFunc] 103)).cell? ⟨g, 3, none⟩ = some (.int .i64 1) := (World.cell?_alloc_lt w _ ⟨g, 3, none⟩ h.lt).trans c3
  have hi : ∀ w, (Instr.index 140 (.agg #[.func (.func 75) #[] #[], .func (.func 76) #[] #[], .func (.func 77) #[] #[], .func (.func 78) #[] #[], .func (.func 79) #[] #[], .func (.func 80) #[] #[], .func (.func 81) #[] #[], .func (.func 82) #[] #[], .func (.func 83) #[] #[], .func (.func 84) #[] #[], .func (.func 85) #[] #[], .func (.func 85) #[] #[]]) (.int .i64 1)).run Tryd.prog w = .ok (.agg #[.func (.func 76) #[] #[]]) w := fun _ => by kernel_rfl
  clear hp h
  go_enter Tryd.func56, Tryd.ntmps56
  go_wp2_with fail
  refine bodyPost_ret (v := .agg #[.func (.func 76) #[] #[]]) (by simp [results, Tryd.results56, go_sem]) rfl ⟨rfl, ?_⟩
  exact (Below.refl _ _).alloc (Nat.le_refl _) _

set_option maxRecDepth 100000 in
theorem way_2 {B g : Nat} {S : Nat → Prop} {d : Dc} {w : World} (h : DcAt w B g S d) (hp : d.place = 2) :
    Calls Tryd.prog 56 #[.pointer (some ⟨g, 0, none⟩)] w fun e w' => e = .returned (.agg #[.func (.func 77) #[] #[]]) ∧ Below w.heap.size w w' := by
  have c3 := h.get_place
  rw [hp] at c3
  have c3a : (w.alloc (.cells #[.nilFunc] 103)).cell? ⟨g, 3, none⟩ = some (.int .i64 2) := (World.cell?_alloc_lt w _ ⟨g, 3, none⟩ h.lt).trans c3
  have hi : ∀ w, (Instr.index 140 (.agg #[.func (.func 75) #[] #[], .func (.func 76) #[] #[], .func (.func 77) #[] #[], .func (.func 78) #[] #[], .func (.func 79) #[] #[], .func (.func 80) #[] #[], .func (.func 81) #[] #[], .func (.func 82) #[] #[], .func (.func 83) #[] #[], .func (.func 84) #[] #[], .func (.func 85) #[] #[], .func (.func 85) #[] #[]]) (.int .i64 2)).run Tryd.prog w = .ok (.agg #[.func (.func 77) #[] #[]]) w := fun _ => by kernel_rfl
  clear hp h
  go_enter Tryd.func56, Tryd.ntmps56
  go_wp2_with fail
  refine bodyPost_ret (v := .agg #[.func (.func 77) #[] #[]]) (by simp [results, Tryd.results56, go_sem]) rfl ⟨rfl, ?_⟩
  exact (Below.refl _ _).alloc (Nat.le_refl _) _

set_option maxRecDepth 100000 in
theorem way_4 {B g : Nat} {S : Nat → Prop} {d : Dc} {w : World} (h : DcAt w B g S d) (hp : d.place = 4) :
    Calls Tryd.prog 56 #[.pointer (some ⟨g, 0, none⟩)] w fun e w' => e = .returned (.agg #[.func (.func 79) #[] #[]]) ∧ Below w.heap.size w w' := by
  have c3 := h.get_place
  rw [hp] at c3
  have c3a : (w.alloc (.cells #[.nilFunc] 103)).cell? ⟨g, 3, none⟩ = some (.int .i64 4) := (World.cell?_alloc_lt w _ ⟨g, 3, none⟩ h.lt).trans c3
  have hi : ∀ w, (Instr.index 140 (.agg #[.func (.func 75) #[] #[], .func (.func 76) #[] #[], .func (.func 77) #[] #[], .func (.func 78) #[] #[], .func (.func 79) #[] #[], .func (.func 80) #[] #[], .func (.func 81) #[] #[], .func (.func 82) #[] #[], .func (.func 83) #[] #[], .func (.func 84) #[] #[], .func (.func 85) #[] #[], .func (.func 85) #[] #[]]) (.int .i64 4)).run Tryd.prog w = .ok (.agg #[.func (.func 79) #[] #[]]) w := fun _ => by kernel_rfl
  clear hp h
  go_enter Tryd.func56, Tryd.ntmps56
  go_wp2_with fail
  refine bodyPost_ret (v := .agg #[.func (.func 79) #[] #[]]) (by simp [results, Tryd.results56, go_sem]) rfl ⟨rfl, ?_⟩
  exact (Below.refl _ _).alloc (Nat.le_refl _) _

set_option maxRecDepth 100000 in
theorem way_5 {B g : Nat} {S : Nat → Prop} {d : Dc} {w : World} (h : DcAt w B g S d) (hp : d.place = 5) :
    Calls Tryd.prog 56 #[.pointer (some ⟨g, 0, none⟩)] w fun e w' => e = .returned (.agg #[.func (.func 80) #[] #[]]) ∧ Below w.heap.size w w' := by
  have c3 := h.get_place
  rw [hp] at c3
  have c3a : (w.alloc (.cells #[.nilFunc] 103)).cell? ⟨g, 3, none⟩ = some (.int .i64 5) := (World.cell?_alloc_lt w _ ⟨g, 3, none⟩ h.lt).trans c3
  have hi : ∀ w, (Instr.index 140 (.agg #[.func (.func 75) #[] #[], .func (.func 76) #[] #[], .func (.func 77) #[] #[], .func (.func 78) #[] #[], .func (.func 79) #[] #[], .func (.func 80) #[] #[], .func (.func 81) #[] #[], .func (.func 82) #[] #[], .func (.func 83) #[] #[], .func (.func 84) #[] #[], .func (.func 85) #[] #[], .func (.func 85) #[] #[]]) (.int .i64 5)).run Tryd.prog w = .ok (.agg #[.func (.func 80) #[] #[]]) w := fun _ => by kernel_rfl
  clear hp h
  go_enter Tryd.func56, Tryd.ntmps56
  go_wp2_with fail
  refine bodyPost_ret (v := .agg #[.func (.func 80) #[] #[]]) (by simp [results, Tryd.results56, go_sem]) rfl ⟨rfl, ?_⟩
  exact (Below.refl _ _).alloc (Nat.le_refl _) _

set_option maxRecDepth 100000 in
theorem way_6 {B g : Nat} {S : Nat → Prop} {d : Dc} {w : World} (h : DcAt w B g S d) (hp : d.place = 6) :
    Calls Tryd.prog 56 #[.pointer (some ⟨g, 0, none⟩)] w fun e w' => e = .returned (.agg #[.func (.func 81) #[] #[]]) ∧ Below w.heap.size w w' := by
  have c3 := h.get_place
  rw [hp] at c3
  have c3a : (w.alloc (.cells #[.nilFunc] 103)).cell? ⟨g, 3, none⟩ = some (.int .i64 6) := (World.cell?_alloc_lt w _ ⟨g, 3, none⟩ h.lt).trans c3
  have hi : ∀ w, (Instr.index 140 (.agg #[.func (.func 75) #[] #[], .func (.func 76) #[] #[], .func (.func 77) #[] #[], .func (.func 78) #[] #[], .func (.func 79) #[] #[], .func (.func 80) #[] #[], .func (.func 81) #[] #[], .func (.func 82) #[] #[], .func (.func 83) #[] #[], .func (.func 84) #[] #[], .func (.func 85) #[] #[], .func (.func 85) #[] #[]]) (.int .i64 6)).run Tryd.prog w = .ok (.agg #[.func (.func 81) #[] #[]]) w := fun _ => by kernel_rfl
  clear hp h
  go_enter Tryd.func56, Tryd.ntmps56
  go_wp2_with fail
  refine bodyPost_ret (v := .agg #[.func (.func 81) #[] #[]]) (by simp [results, Tryd.results56, go_sem]) rfl ⟨rfl, ?_⟩
  exact (Below.refl _ _).alloc (Nat.le_refl _) _

set_option maxRecDepth 100000 in
theorem way_7 {B g : Nat} {S : Nat → Prop} {d : Dc} {w : World} (h : DcAt w B g S d) (hp : d.place = 7) :
    Calls Tryd.prog 56 #[.pointer (some ⟨g, 0, none⟩)] w fun e w' => e = .returned (.agg #[.func (.func 82) #[] #[]]) ∧ Below w.heap.size w w' := by
  have c3 := h.get_place
  rw [hp] at c3
  have c3a : (w.alloc (.cells #[.nilFunc] 103)).cell? ⟨g, 3, none⟩ = some (.int .i64 7) := (World.cell?_alloc_lt w _ ⟨g, 3, none⟩ h.lt).trans c3
  have hi : ∀ w, (Instr.index 140 (.agg #[.func (.func 75) #[] #[], .func (.func 76) #[] #[], .func (.func 77) #[] #[], .func (.func 78) #[] #[], .func (.func 79) #[] #[], .func (.func 80) #[] #[], .func (.func 81) #[] #[], .func (.func 82) #[] #[], .func (.func 83) #[] #[], .func (.func 84) #[] #[], .func (.func 85) #[] #[], .func (.func 85) #[] #[]]) (.int .i64 7)).run Tryd.prog w = .ok (.agg #[.func (.func 82) #[] #[]]) w := fun _ => by kernel_rfl
  clear hp h
  go_enter Tryd.func56, Tryd.ntmps56
  go_wp2_with fail
  refine bodyPost_ret (v := .agg #[.func (.func 82) #[] #[]]) (by simp [results, Tryd.results56, go_sem]) rfl ⟨rfl, ?_⟩
  exact (Below.refl _ _).alloc (Nat.le_refl _) _

set_option maxRecDepth 100000 in
theorem way_8 {B g : Nat} {S : Nat → Prop} {d : Dc} {w : World} (h : DcAt w B g S d) (hp : d.place = 8) :
    Calls Tryd.prog 56 #[.pointer (some ⟨g, 0, none⟩)] w fun e w' => e = .returned (.agg #[.func (.func 83) #[] #[]]) ∧ Below w.heap.size w w' := by
  have c3 := h.get_place
  rw [hp] at c3
  have c3a : (w.alloc (.cells #[.nilFunc] 103)).cell? ⟨g, 3, none⟩ = some (.int .i64 8) := (World.cell?_alloc_lt w _ ⟨g, 3, none⟩ h.lt).trans c3
  have hi : ∀ w, (Instr.index 140 (.agg #[.func (.func 75) #[] #[], .func (.func 76) #[] #[], .func (.func 77) #[] #[], .func (.func 78) #[] #[], .func (.func 79) #[] #[], .func (.func 80) #[] #[], .func (.func 81) #[] #[], .func (.func 82) #[] #[], .func (.func 83) #[] #[], .func (.func 84) #[] #[], .func (.func 85) #[] #[], .func (.func 85) #[] #[]]) (.int .i64 8)).run Tryd.prog w = .ok (.agg #[.func (.func 83) #[] #[]]) w := fun _ => by kernel_rfl
  clear hp h
  go_enter Tryd.func56, Tryd.ntmps56
  go_wp2_with fail
  refine bodyPost_ret (v := .agg #[.func (.func 83) #[] #[]]) (by simp [results, Tryd.results56, go_sem]) rfl ⟨rfl, ?_⟩
  exact (Below.refl _ _).alloc (Nat.le_refl _) _

set_option maxRecDepth 100000 in
theorem way_9 {B g : Nat} {S : Nat → Prop} {d : Dc} {w : World} (h : DcAt w B g S d) (hp : d.place = 9) :
    Calls Tryd.prog 56 #[.pointer (some ⟨g, 0, none⟩)] w fun e w' => e = .returned (.agg #[.func (.func 84) #[] #[]]) ∧ Below w.heap.size w w' := by
  have c3 := h.get_place
  rw [hp] at c3
  have c3a : (w.alloc (.cells #[.nilFunc] 103)).cell? ⟨g, 3, none⟩ = some (.int .i64 9) := (World.cell?_alloc_lt w _ ⟨g, 3, none⟩ h.lt).trans c3
  have hi : ∀ w, (Instr.index 140 (.agg #[.func (.func 75) #[] #[], .func (.func 76) #[] #[], .func (.func 77) #[] #[], .func (.func 78) #[] #[], .func (.func 79) #[] #[], .func (.func 80) #[] #[], .func (.func 81) #[] #[], .func (.func 82) #[] #[], .func (.func 83) #[] #[], .func (.func 84) #[] #[], .func (.func 85) #[] #[], .func (.func 85) #[] #[]]) (.int .i64 9)).run Tryd.prog w = .ok (.agg #[.func (.func 84) #[] #[]]) w := fun _ => by kernel_rfl
  clear hp h
  go_enter Tryd.func56, Tryd.ntmps56
  go_wp2_with fail
  refine bodyPost_ret (v := .agg #[.func (.func 84) #[] #[]]) (by simp [results, Tryd.results56, go_sem]) rfl ⟨rfl, ?_⟩
  exact (Below.refl _ _).alloc (Nat.le_refl _) _

set_option maxRecDepth 100000 in
theorem way_10 {B g : Nat} {S : Nat → Prop} {d : Dc} {w : World} (h : DcAt w B g S d) (hp : d.place = 10) :
    Calls Tryd.prog 56 #[.pointer (some ⟨g, 0, none⟩)] w fun e w' => e = .returned (.agg #[.func (.func 85) #[] #[]]) ∧ Below w.heap.size w w' := by
  have c3 := h.get_place
  rw [hp] at c3
  have c3a : (w.alloc (.cells #[.nilFunc] 103)).cell? ⟨g, 3, none⟩ = some (.int .i64 10) := (World.cell?_alloc_lt w _ ⟨g, 3, none⟩ h.lt).trans c3
  have hi : ∀ w, (Instr.index 140 (.agg #[.func (.func 75) #[] #[], .func (.func 76) #[] #[], .func (.func 77) #[] #[], .func (.func 78) #[] #[], .func (.func 79) #[] #[], .func (.func 80) #[] #[], .func (.func 81) #[] #[], .func (.func 82) #[] #[], .func (.func 83) #[] #[], .func (.func 84) #[] #[], .func (.func 85) #[] #[], .func (.func 85) #[] #[]]) (.int .i64 10)).run Tryd.prog w = .ok (.agg #[.func (.func 85) #[] #[]]) w := fun _ => by kernel_rfl
  clear hp h
  go_enter Tryd.func56, Tryd.ntmps56
  go_wp2_with fail
  refine bodyPost_ret (v := .agg #[.func (.func 85) #[] #[]]) (by simp [results, Tryd.results56, go_sem]) rfl ⟨rfl, ?_⟩
  exact (Below.refl _ _).alloc (Nat.le_refl _) _

/-- What stands at a decoder's place: the function, and its contract. -/
structure WayFn (d : Dc) (F : Nat) : Prop where
  enters : ∀ args w, (callFunc F args).run Tryd.prog w = .ok (.enter F args) w
  way : ∀ {B g : Nat} {S : Nat → Prop} {w : World}, DcAt w B g S d → Calls Tryd.prog 56 #[.pointer (some ⟨g, 0, none⟩)] w fun e w' => e = .returned (.agg #[.func (.func F) #[] #[]]) ∧ Below w.heap.size w w'
  step : ∀ {B g : Nat} {S : Nat → Prop} {w : World}, DcAt w B g S d → 2 ≤ B → Vars w → ∀ c : Int, 0 ≤ c → c ≤ 255 → Calls Tryd.prog F #[.pointer (some ⟨g, 0, none⟩), .int .u8 c] w (MPost w B g S (dStep d c))

theorem way_fn {d : Dc} (hi : DInv d) (h3 : d.place ≠ 3) (h11 : d.place ≠ 11) : ∃ F, WayFn d F := by
  have hp0 := hi.p0
  have hp1 := hi.p1
  by_cases e0 : d.place = 0
  · refine ⟨75, enters_of Tryd.func75 (by kernel_rfl) rfl, fun h => way_0 h e0, fun h hB hv c h0 h1 => ?_⟩
    have e : dStep d c = dDigit d c := by unfold dStep; rw [if_pos e0]
    rw [e]
    exact digit_calls h hB hv hi.ok c h0 h1
  by_cases e1 : d.place = 1
  · refine ⟨76, enters_of Tryd.func76 (by kernel_rfl) rfl, fun h => way_1 h e1, fun h hB hv c h0 h1 => ?_⟩
    have e : dStep d c = dExt d c := by unfold dStep; rw [if_neg e0, if_pos e1]
    rw [e]
    exact ext_calls h hB hv hi.ok c h0 h1
  by_cases e2 : d.place = 2
  · refine ⟨77, enters_of Tryd.func77 (by kernel_rfl) rfl, fun h => way_2 h e2, fun h hB hv c h0 h1 => ?_⟩
    have e : dStep d c = dBegun d c := by unfold dStep; rw [if_neg e0, if_neg e1, if_pos e2]
    rw [e]
    exact begun_calls h c
  by_cases e4 : d.place = 4
  · refine ⟨79, enters_of Tryd.func79 (by kernel_rfl) rfl, fun h => way_4 h e4, fun h hB hv c h0 h1 => ?_⟩
    have e : dStep d c = dClosed d c := by unfold dStep; rw [if_neg e0, if_neg e1, if_neg e2, if_pos e4]
    rw [e]
    exact closed_calls h c
  by_cases e5 : d.place = 5
  · refine ⟨80, enters_of Tryd.func80 (by kernel_rfl) rfl, fun h => way_5 h e5, fun h hB hv c h0 h1 => ?_⟩
    have e : dStep d c = dAgain d c := by unfold dStep; rw [if_neg e0, if_neg e1, if_neg e2, if_neg e4, if_pos e5]
    rw [e]
    exact again_calls h c
  by_cases e6 : d.place = 6
  · refine ⟨81, enters_of Tryd.func81 (by kernel_rfl) rfl, fun h => way_6 h e6, fun h hB hv c h0 h1 => ?_⟩
    have e : dStep d c = dFirst d c := by unfold dStep; rw [if_neg e0, if_neg e1, if_neg e2, if_neg e4, if_neg e5, if_pos e6]
    rw [e]
    exact first_calls h hB hv hi.ok c h0 h1
  by_cases e7 : d.place = 7
  · refine ⟨82, enters_of Tryd.func82 (by kernel_rfl) rfl, fun h => way_7 h e7, fun h hB hv c h0 h1 => ?_⟩
    have e : dStep d c = dNamed d c := by unfold dStep; rw [if_neg e0, if_neg e1, if_neg e2, if_neg e4, if_neg e5, if_neg e6, if_pos e7]
    rw [e]
    exact named_calls h hB hv hi.ok c h0 h1
  by_cases e8 : d.place = 8
  · refine ⟨83, enters_of Tryd.func83 (by kernel_rfl) rfl, fun h => way_8 h e8, fun h hB hv c h0 h1 => ?_⟩
    have e : dStep d c = dValued d c := by unfold dStep; rw [if_neg e0, if_neg e1, if_neg e2, if_neg e4, if_neg e5, if_neg e6, if_neg e7, if_pos e8]
    rw [e]
    exact valued_calls h hB hv hi.ok c h0 h1
  by_cases e9 : d.place = 9
  · refine ⟨84, enters_of Tryd.func84 (by kernel_rfl) rfl, fun h => way_9 h e9, fun h hB hv c h0 h1 => ?_⟩
    have e : dStep d c = dLine d c := by unfold dStep; rw [if_neg e0, if_neg e1, if_neg e2, if_neg e4, if_neg e5, if_neg e6, if_neg e7, if_neg e8, if_pos e9]
    rw [e]
    exact line_calls h hB hv hi.ok (hi.l9 e9) c
  refine ⟨85, enters_of Tryd.func85 (by kernel_rfl) rfl, fun h => way_10 h (by omega), fun h hB hv c h0 h1 => ?_⟩
  have e : dStep d c = dFinish d c := by unfold dStep; rw [if_neg e0, if_neg e1, if_neg e2, if_neg e4, if_neg e5, if_neg e6, if_neg e7, if_neg e8, if_neg e9]
  rw [e]
  exact finish_calls h c
end Go.Proofs.YtebjfgkgfgbndaaDoor

namespace Go.Proofs.YtebjfgkgfgbndaaDoor
open Go.RowKit Go.Proofs.YtebjfgkgfgbndaaDoorW.PrintWords Go.Proofs.YtebjfgkgfgbndaaDoorW.PrintLast Go.Proofs.YtebjfgkgfgbndaaDoorW.PrintMore
open PBodyScans
set_option linter.unusedVariables false
set_option linter.unusedSimpArgs false

structure PSt (w : World) (B g : Nat) (S : Nat → Prop) (W : World) (dr : Dc) (vo : Value) (out : List Int) (Sd So : Nat → Prop) : Prop where
  dc : DcAt W B g Sd dr
  out : Kd.R (Kd.int .u8) 5 W B So vo out
  dis : ∀ k, Sd k → So k → False
  sd : ∀ k, Sd k → S k ∨ w.heap.size ≤ k
  so : ∀ k, So k → w.heap.size ≤ k
  below : Below B w W
  kept : Kept w W (fun k => k = g ∨ S k)
  glt : g < w.heap.size

section
variable {w W W' : World} {B g : Nat} {S Sd So : Nat → Prop} {dr : Dc} {vo : Value} {out : List Int}
theorem PSt.start (h : DcAt w B g S dr) : PSt w B g S w dr (.slice none 0 0) [] S (fun _ => False) :=
  ⟨h, Kd.R_nil _ _ _ _ _, fun _ _ h => h, fun _ h => .inl h, fun _ h => h.elim, Below.refl _ _, Kept.refl _ _, h.lt⟩
theorem PSt.step_below (p : PSt w B g S W dr vo out Sd So) (hb : Below W.heap.size W W') : PSt w B g S W' dr vo out Sd So :=
  ⟨p.dc.below hb, Kd.R_below p.out hb, p.dis, p.sd, p.so, below_then p.below p.dc.le hb, kept_below p.kept hb, p.glt⟩
theorem PSt.drawn (p : PSt w B g S W dr vo out Sd So) (n : Nat) : PSt w B g S (W.drewN n) dr vo out Sd So := p.step_below (Drawn0.below ⟨n, rfl⟩)
theorem PSt.gout (p : PSt w B g S W dr vo out Sd So) : ∀ k, So k → k ≠ g := fun k hk e => by have := p.so k hk; have := p.glt; omega
theorem PSt.setc (p : PSt w B g S W dr vo out Sd So) {d' : Dc} (j : Nat) (v : Value) (hl : d'.line = dr.line) (hf : d'.fields = dr.fields)
    (hv : ∀ vl vf, (dcCells dr vl vf).setIfInBounds j v = dcCells d' vl vf) : PSt w B g S (W.setCell ⟨g, j, none⟩ v) d' vo out Sd So :=
  ⟨p.dc.setc j v hl hf hv, Kd.R_far (p := ⟨g, j, none⟩) p.out p.gout v, p.dis, p.sd, p.so, p.below.setCell (p := ⟨g, j, none⟩) p.dc.1 v, kept_set p.kept (.inl rfl) j v, p.glt⟩
theorem PSt.vars (p : PSt w B g S W dr vo out Sd So) (hv : Vars w) (hB : 2 ≤ B) : Vars W :=
  ⟨(p.below.block 0 (by omega)).trans hv.1, hv.2.imp fun _ hm => (p.below.cell (p := ⟨1, 0, none⟩) (by simp; omega)).trans hm⟩
/-- A call of a method. -/
theorem PSt.method (p : PSt w B g S W dr vo out Sd So) {d' : Dc} (m : Mid W B g Sd d' W') : PSt w B g S W' d' vo out (fun k => Sd k ∨ W.heap.size ≤ k) (fun k => So k ∧ k < W.heap.size) := by
  refine ⟨m.1, ?_, fun k h1 h2 => h1.elim (fun h => p.dis k h h2.1) (fun h => by have := h2.2; omega), fun k h => h.elim (p.sd k) (fun h => .inr (Nat.le_trans p.kept.1 h)), fun k h => p.so k h.1, p.below.trans m.2.1, ?_, p.glt⟩
  · refine Kd.R_move (Kd.R_mono (Kd.R_bound p.out) (fun k hk => ⟨hk.1, hk.2.2.1⟩)) (fun k hk => m.2.2.2 k hk.2 (fun e => e.elim (fun e => p.gout k hk.1 e) (fun e => p.dis k e hk.1)))
  · refine ⟨Nat.le_trans p.kept.1 m.2.2.1, fun i hi hs => (m.2.2.2 i (Nat.lt_of_lt_of_le hi p.kept.1) (fun e => e.elim (fun e => hs (.inl e)) (fun e => (p.sd i e).elim (fun e => hs (.inr e)) (fun e => by omega)))).trans (p.kept.2 i hi hs)⟩
/-- Data have been appended. -/
theorem PSt.append (p : PSt w B g S W dr vo out Sd So) {v1 : Value} {out' : List Int} (hR : Kd.R (Kd.int .u8) 5 W' B (fun k => So k ∨ W.heap.size ≤ k) v1 out') (hB : Below B w W') (hg : W.grownBy W' vo.ownBlock) :
    PSt w B g S W' dr v1 out' (fun k => Sd k ∧ k < W.heap.size) (fun k => So k ∨ W.heap.size ≤ k) := by
  have hown : ∀ k, vo.ownBlock = some k → So k := p.out.1
  refine ⟨?_, hR, fun k h1 h2 => h2.elim (p.dis k h1.1) (fun h => by have := h1.2; omega), fun k h => p.sd k h.1, fun k h => h.elim (p.so k) (fun h => Nat.le_trans p.kept.1 h), hB, ?_, p.glt⟩
  · have hne : ∀ k, k < W.heap.size → k = g ∨ Sd k → W'.heap[k]? = W.heap[k]? := fun k hk h => hg.block k hk (fun e => by
      have hs := hown k e.symm
      exact h.elim (fun e => p.gout k hs e) (fun h => p.dis k h hs))
    have hlt := p.dc.lt
    obtain ⟨h0, vl, vf, h1, h2, h3⟩ := p.dc
    have hb2 := Kd.R_bound h2
    have hb3 := Kd.R_bound h3
    exact ⟨h0, vl, vf, (hne g hlt (.inl rfl)).trans h1, Kd.R_move (Kd.R_mono hb2 (fun k hk => ⟨hk.1, hk.2.2.1⟩)) (fun k hk => hne k hk.2 (.inr hk.1)), Kd.R_move (Kd.R_mono hb3 (fun k hk => ⟨hk.1, hk.2.2.1⟩)) (fun k hk => hne k hk.2 (.inr hk.1))⟩
  · refine ⟨Nat.le_trans p.kept.1 hg.size, fun i hi hs => (hg.block i (Nat.lt_of_lt_of_le hi p.kept.1) (fun e => ?_)).trans (p.kept.2 i hi hs)⟩
    have := p.so i (hown i e.symm)
    omega
theorem PSt.reads (p : PSt w B g S W dr vo out Sd So) {A : Option Addr} {n : Nat} {b : List Int} (h : ReadsInt w .u8 A n b) (hA : ∀ ad, A = some ad → 0 < n → ad.block ≠ g ∧ ¬ S ad.block) : ReadsInt W .u8 A n b := by
  refine ⟨h.1, h.2.1, fun hn => ?_⟩
  obtain ⟨ad, e, hc⟩ := h.2.2 hn
  obtain ⟨h1, h2⟩ := hA ad e hn
  refine ⟨ad, e, fun j hj => ?_⟩
  have hblk : (ad.add j).block = ad.block := by unfold Addr.add; split <;> rfl
  have hlt := World.block_lt_of_cell? w _ (hc j hj)
  exact (World.cell?_of_block (p.kept.2 _ hlt (by rw [hblk]; rintro (e | e); exact h1 e; exact h2 e))).trans (hc j hj)
end

/-- The loop of Put. -/
def putG (b : List Int) : Nat → Dc → Int → List Int → Option (Dc × Int × List Int)
  | 0, _, _, _ => none
  | k + 1, d, n, out =>
    if n < (b.length : Int) then
      (if d.e = 0 then
        (if d.place ≠ 11 then
          (if d.place = 3 then
            putG b k { d with n := d.n - min d.n ((b.length : Int) - n), place := if d.n - min d.n ((b.length : Int) - n) = 0 then 4 else 3 } (n + min d.n ((b.length : Int) - n)) (out ++ (b.take (n + min d.n ((b.length : Int) - n)).toNat).drop n.toNat)
           else if (dStep d (rd b n)).2 = 0 then putG b k { (dStep d (rd b n)).1 with e := 0 } (n + 1) out
           else putG b k { (dStep d (rd b n)).1 with e := (dStep d (rd b n)).2 } n out)
         else some (d, n, out))
       else some (d, n, out))
    else some (d, n, out)
end Go.Proofs.YtebjfgkgfgbndaaDoor

namespace Go.Proofs.YtebjfgkgfgbndaaDoor
open Go.RowKit Go.Proofs.YtebjfgkgfgbndaaDoorW.PrintWords Go.Proofs.YtebjfgkgfgbndaaDoorW.PrintLast Go.Proofs.YtebjfgkgfgbndaaDoorW.PrintMore
open PBodyScans
set_option linter.unusedVariables false
set_option linter.unusedSimpArgs false

theorem wrap_ok (x : Int) (h0 : -9223372036854775808 ≤ x) (h1 : x ≤ 9223372036854775807) : wrap64 x = x := by unfold wrap64; omega
theorem info5s : ∃ i, Tryd.prog.info? 5 = some i ∧ i.size = 1 := by
  obtain ⟨i, h1, h2⟩ := Option.map_eq_some_iff.1 info5
  simp only [Prod.mk.injEq] at h2
  exact ⟨i, h1, h2.2.1⟩
theorem dData_inv {d : Dc} (h : DInv d) (h3 : d.place = 3) (m : Int) (h1 : 1 ≤ m) (h2 : m ≤ d.n) : DInv { d with n := d.n - m, place := if d.n - m = 0 then 4 else 3 } := by
  obtain ⟨⟨a1, a2, a3, a4, a5, a6, a7, a8, a9, a10, a11, a12, a13, a14, a15, a16⟩, b1, b2, b3, b4, b5, b6⟩ := h
  refine ⟨⟨a1, a2, a3, a4, a5, a6, ?_, ?_, a9, a10, a11, a12, a13, a14, a15, a16⟩, ?_, ?_, ?_, ?_, ?_, ?_⟩
  · show 0 ≤ d.n - m; omega
  · show d.n - m ≤ 4611686018427387903; omega
  · show (0 : Int) ≤ if d.n - m = 0 then 4 else 3; split <;> omega
  · show (if d.n - m = 0 then (4 : Int) else 3) ≤ 11; split <;> omega
  · intro e; exfalso; have e' : (if d.n - m = 0 then (4 : Int) else 3) = 0 := e; split at e' <;> omega
  · intro e; have e' : (if d.n - m = 0 then (4 : Int) else 3) = 3 := e; show 1 ≤ d.n - m; split at e' <;> omega
  · intro e; exfalso; have e' : (if d.n - m = 0 then (4 : Int) else 3) = 9 := e; split at e' <;> omega
  · intro e; exfalso; have e' : 7 ≤ (if d.n - m = 0 then (4 : Int) else 3) := e.1; split at e' <;> omega
def TG (d : Dc) (r : Dc × Int) : Prop := r.1.taken = d.taken ∧ r.1.given = d.given
theorem tg_ite {d : Dc} {p : Prop} [Decidable p] {a b : Dc × Int} (ha : TG d a) (hb : TG d b) : TG d (if p then a else b) := by split <;> assumption
theorem dTo_tg (d : Dc) (p : Int) (ok : Bool) : TG d (dTo d p ok) := tg_ite ⟨rfl, rfl⟩ ⟨rfl, rfl⟩
theorem dMore_tg (d : Dc) (c p : Int) : TG d (dMore d c p) := tg_ite ⟨rfl, rfl⟩ ⟨rfl, rfl⟩
theorem dExt_tg (d : Dc) (c : Int) : TG d (dExt d c) := tg_ite ⟨rfl, rfl⟩ (tg_ite ⟨rfl, rfl⟩ (tg_ite ⟨rfl, rfl⟩ ⟨rfl, rfl⟩))
theorem dDigit_tg (d : Dc) (c : Int) : TG d (dDigit d c) := by
  have h := dExt_tg { d with count := 0, place := 1 } c
  exact tg_ite (tg_ite ⟨rfl, rfl⟩ ⟨rfl, rfl⟩) (tg_ite ⟨rfl, rfl⟩ (tg_ite (tg_ite ⟨h.1, h.2⟩ ⟨h.1, h.2⟩) (dTo_tg _ _ _)))
theorem dStep_tg (d : Dc) (c : Int) : TG d (dStep d c) := by
  have h := dMore_tg d c 7
  refine tg_ite (dDigit_tg _ _) (tg_ite (dExt_tg _ _) (tg_ite (tg_ite (dTo_tg _ _ _) (dTo_tg _ _ _)) (tg_ite (dTo_tg _ _ _) (tg_ite (dTo_tg { d with count := 0 } _ _) (tg_ite (tg_ite ⟨rfl, rfl⟩ (tg_ite ⟨rfl, rfl⟩ (tg_ite ⟨rfl, rfl⟩ (tg_ite ⟨h.1, h.2⟩ h)))) (tg_ite (tg_ite (dMore_tg _ _ _) (tg_ite ⟨rfl, rfl⟩ (dMore_tg _ _ _))) (tg_ite (tg_ite (dMore_tg _ _ _) (tg_ite ⟨rfl, rfl⟩ (dMore_tg _ _ _))) (tg_ite (tg_ite ⟨rfl, rfl⟩ (tg_ite ⟨rfl, rfl⟩ ⟨rfl, rfl⟩)) (dTo_tg _ _ _)))))))))

/-- What Put leaves. -/
def PutPost (w : World) (B g : Nat) (S : Nat → Prop) (d : Dc) (r : Dc × Int × List Int) (e : Ending) (w' : World) : Prop :=
  ∃ vo Sd So, e = .returned (.tuple #[vo, .int .i64 r.2.1, .int .i64 r.1.e]) ∧ PSt w B g S w' { r.1 with taken := d.taken + r.2.1, given := d.given + r.2.2.length } vo r.2.2 Sd So

set_option maxHeartbeats 4000000 in
set_option maxRecDepth 100000 in
theorem put_calls {B g : Nat} {S : Nat → Prop} {d : Dc} {w : World} (h : DcAt w B g S d) (hB : 2 ≤ B) (hv : Vars w) (hi : DInv d) (ht : 0 ≤ d.taken ∧ d.taken ≤ 1000000000 ∧ 0 ≤ d.given ∧ d.given ≤ 1000000000)
    (A : Option Addr) (b : List Int) (c : Nat) (hb : ReadsInt w .u8 A b.length b) (hbc : b.length ≤ c) (hbr : ∀ x ∈ b, 0 ≤ x ∧ x ≤ 255) (hbl : b.length ≤ 1000000) (hA : ∀ ad, A = some ad → 0 < b.length → ad.block ≠ g ∧ ¬ S ad.block)
    (k : Nat) (r : Dc × Int × List Int) (hk : putG b k d 0 [] = some r) :
    Calls Tryd.prog 18 #[.pointer (some ⟨g, 0, none⟩), .slice A b.length c] w (PutPost w B g S d r) := by
  have HV := Aside0.mk (And.intro hv hB)
  have HT := Aside0.mk ht
  have HB := Aside0.mk hb
  have HBC := Aside0.mk hbc
  have HBR := Aside0.mk hbr
  have HBL := Aside0.mk hbl
  have HA := Aside0.mk hA
  have HK := Aside0.mk hk
  have HP := Aside0.mk (PSt.start h)
  have HI := Aside0.mk hi
  clear h hB hv hi ht hb hbc hbr hA hk
  go_enter Tryd.func18, Tryd.ntmps18
  go_wp2_with fail
  go_step3
  go_wp2_with fail
  go_step3
  go_wp2_with fail
  go_loopg [4, 5] k (fun kq v4 v5 W => ∃ (dr : Dc) (n : Int) (out : List Int) (Sd So : Nat → Prop), v5 = .int .i64 n ∧ Aside0 (0 ≤ n ∧ n ≤ (b.length : Int)) ∧ Aside0 ((out.length : Int) ≤ n) ∧ Aside0 (PSt w B g S W dr v4 out Sd So) ∧ Aside0 (DInv dr) ∧ Aside0 (dr.taken = d.taken ∧ dr.given = d.given) ∧ Aside0 (putG b kq dr n out = some r) ∧ Aside0 (kq ≤ k))
  case atStart => exact ⟨d, 0, [], _, _, rfl, ⟨by omega⟩, ⟨by simp⟩, HP, HI, ⟨rfl, rfl⟩, HK, ⟨Nat.le_refl _⟩⟩
  case round =>
    obtain ⟨dr, n, out, Sd, So, rfl, HN, HOL, HS, HD, HTG, HG, HKQ⟩ := hrel
    clear HP HI HK
    have hnn := HN.out
    cases gk with
    | zero => exact absurd HG.out (by simp [putG])
    | succ k1 =>
      have H := HG.out
      clear HG
      simp only [putG] at H
      have c10 := HS.out.dc.get_e
      have c3 := HS.out.dc.get_place
      have f10 := HS.out.dc.frozen 10
      by_cases hn : n < (b.length : Int)
      · rw [if_pos hn] at H
        have bn : decide (n < (b.length : Int)) = true := decide_eq_true hn
        by_cases he : dr.e = 0
        · rw [if_pos he] at H
          have be : (dr.e == 0) = true := beq_iff_eq.mpr he
          by_cases h11 : dr.place ≠ 11
          · rw [if_pos h11] at H
            have b11 : (dr.place != 11) = true := bne_iff_ne.mpr h11
            by_cases h3 : dr.place = 3
            · rw [if_pos h3] at H
              have b3 : (dr.place == 3) = true := beq_iff_eq.mpr h3
              have c4 := HS.out.dc.get_n
              have n1 := HD.out.n3 h3
              have n2 := HD.out.ok.n1
              obtain ⟨p0, p1⟩ := HN.out
              obtain ⟨m, hm⟩ : ∃ m, min dr.n ((b.length : Int) - n) = m := ⟨_, rfl⟩
              have m1 : 1 ≤ m := by omega
              have m2 : m ≤ dr.n := by omega
              have m3 : n + m ≤ (b.length : Int) := by omega
              rw [hm] at H
              obtain ⟨pc, hpc⟩ : ∃ pc, (b.take (n + m).toNat).drop n.toNat = pc := ⟨_, rfl⟩
              obtain ⟨i5, hi5, hs5⟩ := info5s
              obtain ⟨A2, hsl, hrd, hcc⟩ := print_mid_int (k := .u8) (P := Tryd.prog) 24 5 Tryd.underlying24 hi5 hs5 A c b n (n + m) p0 (by omega) m3 HBC.out
              rw [hpc] at H hsl hrd hcc
              have hpl : (pc.length : Int) = m := by rw [← hpc, List.length_drop, List.length_take]; omega
              have HPL := Aside0.mk hpl
              have HRD : Aside0 (Kd.C (Kd.int .u8) wr A2 pc.length pc) := ⟨Kd.C_of_reads (h1 := fun _ => rfl) (hrd wr (HS.out.reads HB.out HA.out))⟩
              have HM := Aside0.mk (And.intro m1 (And.intro m2 m3))
              have HCC := Aside0.mk hcc
              have HR := Aside0.mk (Kd.R_mono (ok' := fun k => So k ∨ wr.heap.size ≤ k) HS.out.out (fun _ h => .inl h))
              have HLL : Aside0 ((out.length + pc.length) * 1 ≤ 140737488355328) := ⟨by have := HOL.out; omega⟩
              have HP3 := Aside0.mk h3
              have HND := Aside0.mk (And.intro n1 n2)
              have HH := Aside0.mk H
              have HE := Aside0.mk he
              have hm3 : n + m ≤ 1000000 := by omega
              have hm4 : 0 ≤ dr.n - m := by omega
              have hm5 : dr.n - m ≤ 4611686018427387903 := by omega
              clear H he h11 h3 hnn hpl hcc hrd hpc hi5 hs5
              by_cases hz : dr.n - m = 0
              · have bz : (dr.n - m == 0) = true := beq_iff_eq.mpr hz
                have HZ := Aside0.mk hz
                clear hz
                go_wp2_with ((with_reducible refine gate_builtin (b := .append) (xs := #[.tmp 42, .tmp 48]) rfl ?_); at_builtin; (refine Kd.R_append_rows (Kd.int .u8) (Rr := (Kd.int .u8).K wr) (w0 := w) B rfl (.tmp 42) (.tmp 48) 24 5 (.int .u8 0) 1 rfl Tryd.underlying24 info5 rfl (by decide) (by decide) u4 out pc A2 pc.length _ (fun k => So k ∨ wr.heap.size ≤ k) (fun _ => False) rfl rfl HR.out HRD.out (fun _ _ h => h) (fun _ h => h.elim) (fun _ h => .inr h) HS.out.below HS.out.dc.le HLL.out ?_); intro v1 w1 hR1 hB1 hg1 hat1; have HS1 := Aside0.mk (HS.out.append hR1 hB1 hg1); have q4 := HS1.out.dc.get_n; have l4 := HS1.out.dc.frozen 4; have q3 := HS1.out.dc.get_place; have l3 := HS1.out.dc.frozen 3; clear hR1 hB1 hg1 hat1)
                have HDD := dData_inv HD.out HP3.out m HM.out.1 HM.out.2.1
                have HH2 := HH.out
                rw [if_pos HZ.out] at HDD HH2
                have HH := Aside0.mk HH2
                go_roundg k1
                case measure => have := HKQ.out; omega
                case rel => exact ⟨{ dr with n := dr.n - m, place := 4 }, n + m, out ++ pc, _, _, rfl, ⟨by have := HM.out; omega⟩, ⟨by rw [List.length_append]; have := HOL.out; have := HPL.out; omega⟩, ⟨(HS1.out.setc (d' := { dr with n := dr.n - m }) 4 (.int .u64 (dr.n - m)) rfl rfl (fun _ _ => rfl)).setc (d' := { dr with n := dr.n - m, place := 4 }) 3 (.int .i64 4) rfl rfl (fun _ _ => rfl)⟩, ⟨HDD⟩, HTG, HH, ⟨by have := HKQ.out; omega⟩⟩
              · have bz : (dr.n - m == 0) = false := beq_eq_false_iff_ne.mpr hz
                have HZ := Aside0.mk hz
                clear hz
                go_wp2_with ((with_reducible refine gate_builtin (b := .append) (xs := #[.tmp 42, .tmp 48]) rfl ?_); at_builtin; (refine Kd.R_append_rows (Kd.int .u8) (Rr := (Kd.int .u8).K wr) (w0 := w) B rfl (.tmp 42) (.tmp 48) 24 5 (.int .u8 0) 1 rfl Tryd.underlying24 info5 rfl (by decide) (by decide) u4 out pc A2 pc.length _ (fun k => So k ∨ wr.heap.size ≤ k) (fun _ => False) rfl rfl HR.out HRD.out (fun _ _ h => h) (fun _ h => h.elim) (fun _ h => .inr h) HS.out.below HS.out.dc.le HLL.out ?_); intro v1 w1 hR1 hB1 hg1 hat1; have HS1 := Aside0.mk (HS.out.append hR1 hB1 hg1); have q4 := HS1.out.dc.get_n; have l4 := HS1.out.dc.frozen 4; have q3 := HS1.out.dc.get_place; have l3 := HS1.out.dc.frozen 3; clear hR1 hB1 hg1 hat1)
                have HDD := dData_inv HD.out HP3.out m HM.out.1 HM.out.2.1
                have HH2 := HH.out
                rw [if_neg HZ.out] at HDD HH2
                have HH := Aside0.mk HH2
                go_roundg k1
                case measure => have := HKQ.out; omega
                case rel => exact ⟨{ dr with n := dr.n - m, place := 3 }, n + m, out ++ pc, _, _, rfl, ⟨by have := HM.out; omega⟩, ⟨by rw [List.length_append]; have := HOL.out; have := HPL.out; omega⟩, ⟨by have := HS1.out.setc (d' := { dr with n := dr.n - m }) 4 (.int .u64 (dr.n - m)) rfl rfl (fun _ _ => rfl); rw [show ({ dr with n := dr.n - m, place := 3 } : Dc) = { dr with n := dr.n - m } from by rw [← HP3.out]]; exact this⟩, ⟨HDD⟩, HTG, HH, ⟨by have := HKQ.out; omega⟩⟩
            · rw [if_neg h3] at H
              have b3 : (dr.place == 3) = false := beq_eq_false_iff_ne.mpr h3
              obtain ⟨F, hF⟩ := way_fn HD.out h3 h11
              have HF := Aside0.mk hF
              have eF := hF.enters
              have hfld : ∀ W, (Instr.field 103 (.agg #[.func (.func F) #[] #[]]) 0).run Tryd.prog W = .ok (.func (.func F) #[] #[]) W := fun _ => by kernel_rfl
              obtain ⟨p0, p1⟩ := HN.out
              obtain ⟨ad, ea, hx⟩ := (HS.out.reads HB.out HA.out).at_ n p0 hn
              have hxr : 0 ≤ rd b n ∧ rd b n ≤ 255 := HBR.out _ (by unfold rd; rw [List.getD_eq_getElem?_getD, List.getElem?_eq_getElem (by omega)]; exact List.getElem_mem _)
              have HXR := Aside0.mk hxr
              have HNN := Aside0.mk (And.intro p0 hn)
              cases ea
              have HN3 := Aside0.mk (And.intro he (And.intro h11 h3))
              have p0e := eq_true p0
              have q0e := eq_true hn
              by_cases hr : (dStep dr (rd b n)).2 = 0
              · rw [if_pos hr] at H
                have br : ((dStep dr (rd b n)).2 == 0) = true := beq_iff_eq.mpr hr
                have HR := Aside0.mk hr
                have HH := Aside0.mk H
                clear H hF he h11 h3 hn hxr hnn p0 hr
                go_wp2_with fail
                have HSD : Aside0 (PSt w B g S wr.drew dr u4 out Sd So) := ⟨HS.out.step_below (below_drew (Below.refl _ _))⟩
                go_region_with (first | (go_at_call 56; refine (HF.out.way HSD.out.dc).mono ?_; rintro e w1 ⟨rfl, hb1⟩; have HS1 := Aside0.mk (HSD.out.step_below hb1); obtain ⟨ad1, ea1, hx1⟩ := (HS1.out.reads HB.out HA.out).at_ n HNN.out.1 HNN.out.2; have hx2 : w1.cell? (ad.add n.toNat) = some (.int .u8 (rd b n)) := (by cases ea1; exact hx1); clear hx1 ea1 ad1 hb1) | (go_at_fn F; refine (HF.out.step HS1.out.dc HV.out.2 (HS1.out.vars HV.out.1 HV.out.2) (rd b n) HXR.out.1 HXR.out.2).mono ?_; rintro e w2 ⟨rfl, hm⟩; have HS2 := Aside0.mk (HS1.out.method hm); have y12 := HS2.out.dc.get_e; have z12 := HS2.out.dc.frozen 12; clear hm))
                all_goals
                  have HS3 := Aside0.mk (HS2.out.setc (d' := { (dStep dr (rd b n)).1 with e := (dStep dr (rd b n)).2 }) 12 (.int .i64 (dStep dr (rd b n)).2) rfl rfl (fun _ _ => rfl))
                  go_wp2_with fail
                  go_roundg k1
                  case measure => have := HKQ.out; omega
                  case rel => exact ⟨{ (dStep dr (rd b n)).1 with e := (dStep dr (rd b n)).2 }, n + 1, out, _, _, (by rw [wrap_ok (n + 1) (by have := HNN.out; omega) (by have := HNN.out; omega)]), ⟨by have := HNN.out; omega⟩, ⟨by have := HOL.out; omega⟩, HS3, ⟨(dStep_inv HD.out HN3.out.2.2 HN3.out.2.1 _).e _⟩, ⟨(dStep_tg dr (rd b n)).1.trans HTG.out.1, (dStep_tg dr (rd b n)).2.trans HTG.out.2⟩, ⟨by rw [HR.out]; exact HH.out⟩, ⟨by have := HKQ.out; omega⟩⟩
              · rw [if_neg hr] at H
                have br : ((dStep dr (rd b n)).2 == 0) = false := beq_eq_false_iff_ne.mpr hr
                have HR := Aside0.mk hr
                have HH := Aside0.mk H
                clear H hF he h11 h3 hn hxr hnn p0 hr
                go_wp2_with fail
                have HSD : Aside0 (PSt w B g S wr.drew dr u4 out Sd So) := ⟨HS.out.step_below (below_drew (Below.refl _ _))⟩
                go_region_with (first | (go_at_call 56; refine (HF.out.way HSD.out.dc).mono ?_; rintro e w1 ⟨rfl, hb1⟩; have HS1 := Aside0.mk (HSD.out.step_below hb1); obtain ⟨ad1, ea1, hx1⟩ := (HS1.out.reads HB.out HA.out).at_ n HNN.out.1 HNN.out.2; have hx2 : w1.cell? (ad.add n.toNat) = some (.int .u8 (rd b n)) := (by cases ea1; exact hx1); clear hx1 ea1 ad1 hb1) | (go_at_fn F; refine (HF.out.step HS1.out.dc HV.out.2 (HS1.out.vars HV.out.1 HV.out.2) (rd b n) HXR.out.1 HXR.out.2).mono ?_; rintro e w2 ⟨rfl, hm⟩; have HS2 := Aside0.mk (HS1.out.method hm); have y12 := HS2.out.dc.get_e; have z12 := HS2.out.dc.frozen 12; clear hm))
                all_goals
                  have HS3 := Aside0.mk (HS2.out.setc (d' := { (dStep dr (rd b n)).1 with e := (dStep dr (rd b n)).2 }) 12 (.int .i64 (dStep dr (rd b n)).2) rfl rfl (fun _ _ => rfl))
                  go_wp2_with fail
                  go_roundg k1
                  case measure => have := HKQ.out; omega
                  case rel => exact ⟨{ (dStep dr (rd b n)).1 with e := (dStep dr (rd b n)).2 }, n, out, _, _, rfl, ⟨by have := HNN.out; omega⟩, ⟨by have := HOL.out; omega⟩, HS3, ⟨(dStep_inv HD.out HN3.out.2.2 HN3.out.2.1 _).e _⟩, ⟨(dStep_tg dr (rd b n)).1.trans HTG.out.1, (dStep_tg dr (rd b n)).2.trans HTG.out.2⟩, ⟨HH.out⟩, ⟨by have := HKQ.out; omega⟩⟩
          · rw [if_neg h11] at H
            have b11 : (dr.place != 11) = false := by simpa using h11
            clear he
            obtain ⟨A3, c3l, hu4⟩ := Kd.R_slice HS.out.out
            have hbl2 := HOL.out
            obtain ⟨t1, t2, t3, t4⟩ := HT.out
            have e10 := HS.out.dc.get_taken
            have e11 := HS.out.dc.get_given
            have g10 := HS.out.dc.frozen 10
            have g11 := HS.out.dc.frozen 11
            rw [HTG.out.1] at e10
            rw [HTG.out.2] at e11
            have hr := Option.some.inj H
            subst hu4
            subst hr
            have hn0 := HN.out.1
            have hn1 := HN.out.2
            clear H
            go_wp2_with fail
            go_quiet (fail)
            go_wp2_with fail
            try rw [Exit.noGoto_ret]
            go_ret3
            have HF := ((HS.out.setc (d' := { dr with taken := d.taken + n }) 10 (.int .i64 (d.taken + n)) rfl rfl (fun _ _ => rfl)).setc (d' := { dr with taken := d.taken + n, given := d.given + out.length }) 11 (.int .i64 (d.given + out.length)) rfl rfl (fun _ _ => rfl)).drawn nq
            exact ⟨_, _, _, rfl, HF⟩
        · rw [if_neg he] at H
          have be : (dr.e == 0) = false := beq_eq_false_iff_ne.mpr he
          obtain ⟨A3, c3l, hu4⟩ := Kd.R_slice HS.out.out
          have hbl2 := HOL.out
          obtain ⟨t1, t2, t3, t4⟩ := HT.out
          have e10 := HS.out.dc.get_taken
          have e11 := HS.out.dc.get_given
          have g10 := HS.out.dc.frozen 10
          have g11 := HS.out.dc.frozen 11
          rw [HTG.out.1] at e10
          rw [HTG.out.2] at e11
          have hr := Option.some.inj H
          subst hu4
          subst hr
          have hn0 := HN.out.1
          have hn1 := HN.out.2
          clear H
          go_wp2_with fail
          go_quiet (fail)
          go_wp2_with fail
          try rw [Exit.noGoto_ret]
          go_ret3
          have HF := ((HS.out.setc (d' := { dr with taken := d.taken + n }) 10 (.int .i64 (d.taken + n)) rfl rfl (fun _ _ => rfl)).setc (d' := { dr with taken := d.taken + n, given := d.given + out.length }) 11 (.int .i64 (d.given + out.length)) rfl rfl (fun _ _ => rfl)).drawn nq
          exact ⟨_, _, _, rfl, HF⟩
      · rw [if_neg hn] at H
        have bn : decide (n < (b.length : Int)) = false := decide_eq_false hn
        obtain ⟨A3, c3l, hu4⟩ := Kd.R_slice HS.out.out
        have hbl2 := HOL.out
        obtain ⟨t1, t2, t3, t4⟩ := HT.out
        have e10 := HS.out.dc.get_taken
        have e11 := HS.out.dc.get_given
        have g10 := HS.out.dc.frozen 10
        have g11 := HS.out.dc.frozen 11
        rw [HTG.out.1] at e10
        rw [HTG.out.2] at e11
        have hr := Option.some.inj H
        subst hu4
        subst hr
        have hn0 := HN.out.1
        have hn1 := HN.out.2
        clear H
        go_wp2_with fail
        go_quiet (fail)
        go_wp2_with fail
        try rw [Exit.noGoto_ret]
        go_ret3
        have HF := ((HS.out.setc (d' := { dr with taken := d.taken + n }) 10 (.int .i64 (d.taken + n)) rfl rfl (fun _ _ => rfl)).setc (d' := { dr with taken := d.taken + n, given := d.given + out.length }) 11 (.int .i64 (d.given + out.length)) rfl rfl (fun _ _ => rfl)).drawn nq
        exact ⟨_, _, _, rfl, HF⟩
end Go.Proofs.YtebjfgkgfgbndaaDoor
