/- The chunked decoder's method way: contracts (walks) over this seat's translation. -/
import Derived.Test.YtebjfgkgfgbndaaDoorHg
import Derived.Laws.EntriesVeiled
namespace Go.Proofs.YtebjfgkgfgbndaaDoor
open Go.RowKit Go.Proofs.YtebjfgkgfgbndaaDoorW.PrintWords Go.Proofs.YtebjfgkgfgbndaaDoorW.PrintLast Go.Proofs.YtebjfgkgfgbndaaDoorW.PrintMore
open PBodyScans
set_option linter.unusedVariables false
set_option linter.unusedSimpArgs false

set_option maxRecDepth 100000 in
theorem way_0 {B g : Nat} {S : Nat → Prop} {d : Dc} {w : World} (h : DcAt w B g S d) (hp : d.place = 0) :
    Calls Tryd.prog 56 #[.pointer (some ⟨g, 0, none⟩)] w fun e w' => e = .returned (.agg #[.func (.func 75) #[] #[]]) ∧ Below w.heap.size w w' := by
  have c3 := h.get_place
  rw [hp] at c3
  have c3a : (w.alloc (.cells #[.nilFunc] 103)).cell? ⟨g, 3, none⟩ = some (.int .i64 0) := (World.cell?_alloc_lt w _ ⟨g, 3, none⟩ h.lt).trans c3
  have hi : ∀ w, (Instr.index 140 (.agg #[.func (.func 75) #[] #[], .func (.func 76) #[] #[], .func (.func 77) #[] #[], .func (.func 78) #[] #[], .func (.func 79) #[] #[], .func (.func 80) #[] #[], .func (.func 81) #[] #[], .func (.func 82) #[] #[], .func (.func 83) #[] #[], .func (.func 84) #[] #[], .func (.func 85) #[] #[], .func (.func 85) #[] #[]]) (.int .i64 0)).run Tryd.prog w = .ok (.agg #[.func (.func 75) #[] #[]]) w := fun _ => by kernel_rfl
  clear hp h
  go_enter Tryd.func56, Tryd.ntmps56
  go_wp2_with fail
  refine bodyPost_ret (v := .agg #[.func (.func 75) #[] #[]]) (by simp [results, Tryd.results56, go_sem]) rfl ⟨rfl, ?_⟩
  exact (Below.refl _ _).alloc (Nat.le_refl _) _

set_option maxRecDepth 100000 in
theorem way_1 {B g : Nat} {S : Nat → Prop} {d : Dc} {w : World} (h : DcAt w B g S d) (hp : d.place = 1) :
    Calls Tryd.prog 56 #[.pointer (some ⟨g, 0, none⟩)] w fun e w' => e = .returned (.agg #[.func (.func 76) #[] #[]]) ∧ Below w.heap.size w w' := by
  have c3 := h.get_place
  rw [hp] at c3
  have c3a : (w.alloc (.cells #[.nilFunc] 103)).cell? ⟨g, 3, none⟩ = some (.int .i64 1) := (World.cell?_alloc_lt w _ ⟨g, 3, none⟩ h.lt).trans c3
  have hi : ∀ w, (Instr.index 140 (.agg #[.func (.func 75) #[] #[], .func (.func 76) #[] #[], .func (.func 77) #[] #[], .func (.func 78) #[] #[], .func (.func 79) #[] #[], .func (.func 80) #[] #[], .func (.func 81) #[] #[], .func (.func 82) #[] #[], .func (.func 83) #[] #[], .func (.func 84) #[] #[], .func (.func 85) #[] #[], .func (.func 85) #[] #[]]) (.int .i64 1)).run Tryd.prog w = .ok (.agg #[.func (.func 76) #[] #[]]) w := fun _ => by kernel_rfl
  clear hp h
  go_enter Tryd.func56, Tryd.ntmps56
  go_wp2_with fail
  refine bodyPost_ret (v := .agg #[.func (.func 76) #[] #[]]) (by simp [results, Tryd.results56, go_sem]) rfl ⟨rfl, ?_⟩
  exact (Below.refl _ _).alloc (Nat.le_refl _) _

set_option maxRecDepth 100000 in
theorem way_2 {B g : Nat} {S : Nat → Prop} {d : Dc} {w : World} (h : DcAt w B g S d) (hp : d.place = 2) :
    Calls Tryd.prog 56 #[.pointer (some ⟨g, 0, none⟩)] w fun e w' => e = .returned (.agg #[.func (.func 77) #[] #[]]) ∧ Below w.heap.size w w' := by
  have c3 := h.get_place
  rw [hp] at c3
  have c3a : (w.alloc (.cells #[.nilFunc] 103)).cell? ⟨g, 3, none⟩ = some (.int .i64 2) := (World.cell?_alloc_lt w _ ⟨g, 3, none⟩ h.lt).trans c3
  have hi : ∀ w, (Instr.index 140 (.agg #[.func (.func 75) #[] #[], .func (.func 76) #[] #[], .func (.func 77) #[] #[], .func (.func 78) #[] #[], .func (.func 79) #[] #[], .func (.func 80) #[] #[], .func (.func 81) #[] #[], .func (.func 82) #[] #[], .func (.func 83) #[] #[], .func (.func 84) #[] #[], .func (.func 85) #[] #[], .func (.func 85) #[] #[]]) (.int .i64 2)).run Tryd.prog w = .ok (.agg #[.func (.func 77) #[] #[]]) w := fun _ => by kernel_rfl
  clear hp h
  go_enter Tryd.func56, Tryd.ntmps56
  go_wp2_with fail
  refine bodyPost_ret (v := .agg #[.func (.func 77) #[] #[]]) (by simp [results, Tryd.results56, go_sem]) rfl ⟨rfl, ?_⟩
  exact (Below.refl _ _).alloc (Nat.le_refl _) _

set_option maxRecDepth 100000 in
theorem way_4 {B g : Nat} {S : Nat → Prop} {d : Dc} {w : World} (h : DcAt w B g S d) (hp : d.place = 4) :
    Calls Tryd.prog 56 #[.pointer (some ⟨g, 0, none⟩)] w fun e w' => e = .returned (.agg #[.func (.func 79) #[] #[]]) ∧ Below w.heap.size w w' := by
  have c3 := h.get_place
  rw [hp] at c3
  have c3a : (w.alloc (.cells #[.nilFunc] 103)).cell? ⟨g, 3, none⟩ = some (.int .i64 4) := (World.cell?_alloc_lt w _ ⟨g, 3, none⟩ h.lt).trans c3
  have hi : ∀ w, (Instr.index 140 (.agg #[.func (.func 75) #[] #[], .func (.func 76) #[] #[], .func (.func 77) #[] #[], .func (.func 78) #[] #[], .func (.func 79) #[] #[], .func (.func 80) #[] #[], .func (.func 81) #[] #[], .func (.func 82) #[] #[], .func (.func 83) #[] #[], .func (.func 84) #[] #[], .func (.func 85) #[] #[], .func (.func 85) #[] #[]]) (.int .i64 4)).run Tryd.prog w = .ok (.agg #[.func (.func 79) #[] #[]]) w := fun _ => by kernel_rfl
  clear hp h
  go_enter Tryd.func56, Tryd.ntmps56
  go_wp2_with fail
  refine bodyPost_ret (v := .agg #[.func (.func 79) #[] #[]]) (by simp [results, Tryd.results56, go_sem]) rfl ⟨rfl, ?_⟩
  exact (Below.refl _ _).alloc (Nat.le_refl _) _

set_option maxRecDepth 100000 in
theorem way_5 {B g : Nat} {S : Nat → Prop} {d : Dc} {w : World} (h : DcAt w B g S d) (hp : d.place = 5) :
    Calls Tryd.prog 56 #[.pointer (some ⟨g, 0, none⟩)] w fun e w' => e = .returned (.agg #[.func (.func 80) #[] #[]]) ∧ Below w.heap.size w w' := by
  have c3 := h.get_place
  rw [hp] at c3
  have c3a : (w.alloc (.cells #[.nilFunc] 103)).cell? ⟨g, 3, none⟩ = some (.int .i64 5) := (World.cell?_alloc_lt w _ ⟨g, 3, none⟩ h.lt).trans c3
  have hi : ∀ w, (Instr.index 140 (.agg #[.func (.func 75) #[] #[], .func (.func 76) #[] #[], .func (.func 77) #[] #[], .func (.func 78) #[] #[], .func (.func 79) #[] #[], .func (.func 80) #[] #[], .func (.func 81) #[] #[], .func (.func 82) #[] #[], .func (.func 83) #[] #[], .func (.func 84) #[] #[], .func (.func 85) #[] #[], .func (.func 85) #[] #[]]) (.int .i64 5)).run Tryd.prog w = .ok (.agg #[.func (.func 80) #[] #[]]) w := fun _ => by kernel_rfl
  clear hp h
  go_enter Tryd.func56, Tryd.ntmps56
  go_wp2_with fail
  refine bodyPost_ret (v := .agg #[.func (.func 80) #[] #[]]) (by simp [results, Tryd.results56, go_sem]) rfl ⟨rfl, ?_⟩
  exact (Below.refl _ _).alloc (Nat.le_refl _) _

set_option maxRecDepth 100000 in
theorem way_6 {B g : Nat} {S : Nat → Prop} {d : Dc} {w : World} (h : DcAt w B g S d) (hp : d.place = 6) :
    Calls Tryd.prog 56 #[.pointer (some ⟨g, 0, none⟩)] w fun e w' => e = .returned (.agg #[.func (.func 81) #[] #[]]) ∧ Below w.heap.size w w' := by
  have c3 := h.get_place
  rw [hp] at c3
  have c3a : (w.alloc (.cells #[.nilFunc] 103)).cell? ⟨g, 3, none⟩ = some (.int .i64 6) := (World.cell?_alloc_lt w _ ⟨g, 3, none⟩ h.lt).trans c3
  have hi : ∀ w, (Instr.index 140 (.agg #[.func (.func 75) #[] #[], .func (.func 76) #[] #[], .func (.func 77) #[] #[], .func (.func 78) #[] #[], .func (.func 79) #[] #[], .func (.func 80) #[] #[], .func (.func 81) #[] #[], .func (.func 82) #[] #[], .func (.func 83) #[] #[], .func (.func 84) #[] #[], .func (.func 85) #[] #[], .func (.func 85) #[] #[]]) (.int .i64 6)).run Tryd.prog w = .ok (.agg #[.func (.func 81) #[] #[]]) w := fun _ => by kernel_rfl
  clear hp h
  go_enter Tryd.func56, Tryd.ntmps56
  go_wp2_with fail
  refine bodyPost_ret (v := .agg #[.func (.func 81) #[] #[]]) (by simp [results, Tryd.results56, go_sem]) rfl ⟨rfl, ?_⟩
  exact (Below.refl _ _).alloc (Nat.le_refl _) _

set_option maxRecDepth 100000 in
theorem way_7 {B g : Nat} {S : Nat → Prop} {d : Dc} {w : World} (h : DcAt w B g S d) (hp : d.place = 7) :
    Calls Tryd.prog 56 #[.pointer (some ⟨g, 0, none⟩)] w fun e w' => e = .returned (.agg #[.func (.func 82) #[] #[]]) ∧ Below w.heap.size w w' := by
  have c3 := h.get_place
  rw [hp] at c3
  have c3a : (w.alloc (.cells #[.nilFunc] 103)).cell? ⟨g, 3, none⟩ = some (.int .i64 7) := (World.cell?_alloc_lt w _ ⟨g, 3, none⟩ h.lt).trans c3
  have hi : ∀ w, (Instr.index 140 (.agg #[.func (.func 75) #[] #[], .func (.func 76) #[] #[], .func (.func 77) #[] #[], .func (.func 78) #[] #[], .func (.func 79) #[] #[], .func (.func 80) #[] #[], .func (.func 81) #[] #[], .func (.func 82) #[] #[], .func (.func 83) #[] #[], .func (.func 84) #[] #[], .func (.func 85) #[] #[], .func (.func 85) #[] #[]]) (.int .i64 7)).run Tryd.prog w = .ok (.agg #[.func (.func 82) #[] #[]]) w := fun _ => by kernel_rfl
  clear hp h
  go_enter Tryd.func56, Tryd.ntmps56
  go_wp2_with fail
  refine bodyPost_ret (v := .agg #[.func (.func 82) #[] #[]]) (by simp [results, Tryd.results56, go_sem]) rfl ⟨rfl, ?_⟩
  exact (Below.refl _ _).alloc (Nat.le_refl _) _

set_option maxRecDepth 100000 in
theorem way_8 {B g : Nat} {S : Nat → Prop} {d : Dc} {w : World} (h : DcAt w B g S d) (hp : d.place = 8) :
    Calls Tryd.prog 56 #[.pointer (some ⟨g, 0, none⟩)] w fun e w' => e = .returned (.agg #[.func (.func 83) #[] #[]]) ∧ Below w.heap.size w w' := by
  have c3 := h.get_place
  rw [hp] at c3
  have c3a : (w.alloc (.cells #[.nilFunc] 103)).cell? ⟨g, 3, none⟩ = some (.int .i64 8) := (World.cell?_alloc_lt w _ ⟨g, 3, none⟩ h.lt).trans c3
  have hi : ∀ w, (Instr.index 140 (.agg #[.func (.func 75) #[] #[], .func (.func 76) #[] #[], .func (.func 77) #[] #[], .func (.func 78) #[] #[], .func (.func 79) #[] #[], .func (.func 80) #[] #[], .func (.func 81) #[] #[], .func (.func 82) #[] #[], .func (.func 83) #[] #[], .func (.func 84) #[] #[], .func (.func 85) #[] #[], .func (.func 85) #[] #[]]) (.int .i64 8)).run Tryd.prog w = .ok (.agg #[.func (.func 83) #[] #[]]) w := fun _ => by kernel_rfl
  clear hp h
  go_enter Tryd.func56, Tryd.ntmps56
  go_wp2_with fail
  refine bodyPost_ret (v := .agg #[.func (.func 83) #[] #[]]) (by simp [results, Tryd.results56, go_sem]) rfl ⟨rfl, ?_⟩
  exact (Below.refl _ _).alloc (Nat.le_refl _) _

set_option maxRecDepth 100000 in
theorem way_9 {B g : Nat} {S : Nat → Prop} {d : Dc} {w : World} (h : DcAt w B g S d) (hp : d.place = 9) :
    Calls Tryd.prog 56 #[.pointer (some ⟨g, 0, none⟩)] w fun e w' => e = .returned (.agg #[.func (.func 84) #[] #[]]) ∧ Below w.heap.size w w' := by
  have c3 := h.get_place
  rw [hp] at c3
  have c3a : (w.alloc (.cells #[.nilFunc] 103)).cell? ⟨g, 3, none⟩ = some (.int .i64 9) := (World.cell?_alloc_lt w _ ⟨g, 3, none⟩ h.lt).trans c3
  have hi : ∀ w, (Instr.index 140 (.agg #[.func (.func 75) #[] #[], .func (.func 76) #[] #[], .func (.func 77) #[] #[], .func (.func 78) #[] #[], .func (.func 79) #[] #[], .func (.func 80) #[] #[], .func (.func 81) #[] #[], .func (.func 82) #[] #[], .func (.func 83) #[] #[], .func (.func 84) #[] #[], .func (.func 85) #[] #[], .func (.func 85) #[] #[]]) (.int .i64 9)).run Tryd.prog w = .ok (.agg #[.func (.func 84) #[] #[]]) w := fun _ => by kernel_rfl
  clear hp h
  go_enter Tryd.func56, Tryd.ntmps56
  go_wp2_with fail
  refine bodyPost_ret (v := .agg #[.func (.func 84) #[] #[]]) (by simp [results, Tryd.results56, go_sem]) rfl ⟨rfl, ?_⟩
  exact (Below.refl _ _).alloc (Nat.le_refl _) _

set_option maxRecDepth 100000 in
theorem way_10 {B g : Nat} {S : Nat → Prop} {d : Dc} {w : World} (h : DcAt w B g S d) (hp : d.place = 10) :
    Calls Tryd.prog 56 #[.pointer (some ⟨g, 0, none⟩)] w fun e w' => e = .returned (.agg #[.func (.func 85) #[] #[]]) ∧ Below w.heap.size w w' := by
  have c3 := h.get_place
  rw [hp] at c3
  have c3a : (w.alloc (.cells #[.nilFunc] 103)).cell? ⟨g, 3, none⟩ = some (.int .i64 10) := (World.cell?_alloc_lt w _ ⟨g, 3, none⟩ h.lt).trans c3
  have hi : ∀ w, (Instr.index 140 (.agg #[.func (.func 75) #[] #[], .func (.func 76) #[] #[], .func (.func 77) #[] #[], .func (.func 78) #[] #[], .func (.func 79) #[] #[], .func (.func 80) #[] #[], .func (.func 81) #[] #[], .func (.func 82) #[] #[], .func (.func 83) #[] #[], .func (.func 84) #[] #[], .func (.func 85) #[] #[], .func (.func 85) #[] #[]]) (.int .i64 10)).run Tryd.prog w = .ok (.agg #[.func (.func 85) #[] #[]]) w := fun _ => by kernel_rfl
  clear hp h
  go_enter Tryd.func56, Tryd.ntmps56
  go_wp2_with fail
  refine bodyPost_ret (v := .agg #[.func (.func 85) #[] #[]]) (by simp [results, Tryd.results56, go_sem]) rfl ⟨rfl, ?_⟩
  exact (Below.refl _ _).alloc (Nat.le_refl _) _

/-- What stands at a decoder's place: the function, and its contract. -/
structure WayFn (d : Dc) (F : Nat) : Prop where
  enters : ∀ args w, (callFunc F args).run Tryd.prog w = .ok (.enter F args) w
  way : ∀ {B g : Nat} {S : Nat → Prop} {w : World}, DcAt w B g S d → Calls Tryd.prog 56 #[.pointer (some ⟨g, 0, none⟩)] w fun e w' => e = .returned (.agg #[.func (.func F) #[] #[]]) ∧ Below w.heap.size w w'
  step : ∀ {B g : Nat} {S : Nat → Prop} {w : World}, DcAt w B g S d → 2 ≤ B → Vars w → ∀ c : Int, 0 ≤ c → c ≤ 255 → Calls Tryd.prog F #[.pointer (some ⟨g, 0, none⟩), .int .u8 c] w (MPost w B g S (dStep d c))

theorem way_fn {d : Dc} (hi : DInv d) (h3 : d.place ≠ 3) (h11 : d.place ≠ 11) : ∃ F, WayFn d F := by
  have hp0 := hi.p0
  have hp1 := hi.p1
  by_cases e0 : d.place = 0
  · refine ⟨75, enters_of Tryd.func75 (by kernel_rfl) rfl, fun h => way_0 h e0, fun h hB hv c h0 h1 => ?_⟩
    have e : dStep d c = dDigit d c := by unfold dStep; rw [if_pos e0]
    rw [e]
    exact digit_calls h hB hv hi.ok c h0 h1
  by_cases e1 : d.place = 1
  · refine ⟨76, enters_of Tryd.func76 (by kernel_rfl) rfl, fun h => way_1 h e1, fun h hB hv c h0 h1 => ?_⟩
    have e : dStep d c = dExt d c := by unfold dStep; rw [if_neg e0, if_pos e1]
    rw [e]
    exact ext_calls h hB hv hi.ok c h0 h1
  by_cases e2 : d.place = 2
  · refine ⟨77, enters_of Tryd.func77 (by kernel_rfl) rfl, fun h => way_2 h e2, fun h hB hv c h0 h1 => ?_⟩
    have e : dStep d c = dBegun d c := by unfold dStep; rw [if_neg e0, if_neg e1, if_pos e2]
    rw [e]
    exact begun_calls h c
  by_cases e4 : d.place = 4
  · refine ⟨79, enters_of Tryd.func79 (by kernel_rfl) rfl, fun h => way_4 h e4, fun h hB hv c h0 h1 => ?_⟩
    have e : dStep d c = dClosed d c := by unfold dStep; rw [if_neg e0, if_neg e1, if_neg e2, if_pos e4]
    rw [e]
    exact closed_calls h c
  by_cases e5 : d.place = 5
  · refine ⟨80, enters_of Tryd.func80 (by kernel_rfl) rfl, fun h => way_5 h e5, fun h hB hv c h0 h1 => ?_⟩
    have e : dStep d c = dAgain d c := by unfold dStep; rw [if_neg e0, if_neg e1, if_neg e2, if_neg e4, if_pos e5]
    rw [e]
    exact again_calls h c
  by_cases e6 : d.place = 6
  · refine ⟨81, enters_of Tryd.func81 (by kernel_rfl) rfl, fun h => way_6 h e6, fun h hB hv c h0 h1 => ?_⟩
    have e : dStep d c = dFirst d c := by unfold dStep; rw [if_neg e0, if_neg e1, if_neg e2, if_neg e4, if_neg e5, if_pos e6]
    rw [e]
    exact first_calls h hB hv hi.ok c h0 h1
  by_cases e7 : d.place = 7
  · refine ⟨82, enters_of Tryd.func82 (by kernel_rfl) rfl, fun h => way_7 h e7, fun h hB hv c h0 h1 => ?_⟩
    have e : dStep d c = dNamed d c := by unfold dStep; rw [if_neg e0, if_neg e1, if_neg e2, if_neg e4, if_neg e5, if_neg e6, if_pos e7]
    rw [e]
    exact named_calls h hB hv hi.ok c h0 h1
  by_cases e8 : d.place = 8
  · refine ⟨83, enters_of Tryd.func83 (by kernel_rfl) rfl, fun h => way_8 h e8, fun h hB hv c h0 h1 => ?_⟩
    have e : dStep d c = dValued d c := by unfold dStep; rw [if_neg e0, if_neg e1, if_neg e2, if_neg e4, if_neg e5, if_neg e6, if_neg e7, if_pos e8]
    rw [e]
    exact valued_calls h hB hv hi.ok c h0 h1
  by_cases e9 : d.place = 9
  · refine ⟨84, enters_of Tryd.func84 (by kernel_rfl) rfl, fun h => way_9 h e9, fun h hB hv c h0 h1 => ?_⟩
    have e : dStep d c = dLine d c := by unfold dStep; rw [if_neg e0, if_neg e1, if_neg e2, if_neg e4, if_neg e5, if_neg e6, if_neg e7, if_neg e8, if_pos e9]
    rw [e]
    exact line_calls h hB hv hi.ok (hi.l9 e9) c
  refine ⟨85, enters_of Tryd.func85 (by kernel_rfl) rfl, fun h => way_10 h (by omega), fun h hB hv c h0 h1 => ?_⟩
  have e : dStep d c = dFinish d c := by unfold dStep; rw [if_neg e0, if_neg e1, if_neg e2, if_neg e4, if_neg e5, if_neg e6, if_neg e7, if_neg e8, if_neg e9]
  rw [e]
  exact finish_calls h c
end Go.Proofs.YtebjfgkgfgbndaaDoor
