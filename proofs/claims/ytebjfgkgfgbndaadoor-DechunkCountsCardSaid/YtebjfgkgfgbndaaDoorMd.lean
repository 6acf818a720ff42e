/- body.Right, New, the getters; Put plainly: contracts (walks) and plain laws over this seat's translation. -/
import Derived.Test.YtebjfgkgfgbndaaDoorMc
import Derived.WalkSpells
namespace Go.Proofs.YtebjfgkgfgbndaaDoor
open Go.RowKit Go.Proofs.YtebjfgkgfgbndaaDoorW.PrintWords Go.Proofs.YtebjfgkgfgbndaaDoorW.PrintLast Go.Proofs.YtebjfgkgfgbndaaDoorW.PrintMore
open PBodyScans
set_option linter.unusedVariables false
set_option linter.unusedSimpArgs false

def limB (e f b : Int) : Bool := decide (0 ≤ Lib.minOf [e, f, b]) && decide (Lib.maxOf [e, f, b] ≤ 65536)

theorem min3 (b0 : Nat) (e f b : Int) (w : World) (hc : ∀ j, j < [e, f, b].length → w.cell? ⟨b0, 0 + j, none⟩ = some (.int .i64 ([e, f, b].getD j 0))) :
    Calls Tryd.prog 65 #[.slice (some ⟨b0, 0, none⟩) 3 3] w fun r w' => r = .returned (.int .i64 (Lib.minOf [e, f, b])) ∧ w = w' :=
  (Tryd.slices_Min_int b0 0 3 3 [e, f, b] w (by decide) (Nat.le_refl 3) (by decide) hc).mono fun _ _ h => ⟨h.1, h.2.symm⟩
theorem max3 (b0 : Nat) (e f b : Int) (w : World) (hc : ∀ j, j < [e, f, b].length → w.cell? ⟨b0, 0 + j, none⟩ = some (.int .i64 ([e, f, b].getD j 0))) :
    Calls Tryd.prog 66 #[.slice (some ⟨b0, 0, none⟩) 3 3] w fun r w' => r = .returned (.int .i64 (Lib.maxOf [e, f, b])) ∧ w = w' :=
  (Tryd.slices_Max_int b0 0 3 3 [e, f, b] w (by decide) (Nat.le_refl 3) (by decide) hc).mono fun _ _ h => ⟨h.1, h.2.symm⟩

set_option maxRecDepth 100000 in
theorem bright_calls (e f b : Int) (w : World) :
    Calls Tryd.prog 38 #[.agg #[.int .i64 e, .int .i64 f, .int .i64 b]] w fun r w' => r = .returned (.bool (limB e f b)) ∧ Below w.heap.size w w' := by
  have HB := Aside0.mk (((Below.refl w.heap.size w).alloc (Nat.le_refl _) (.cells #[.int .i64 e, .int .i64 f, .int .i64 b] 23)).alloc (by simp) (.cells #[.int .i64 e, .int .i64 f, .int .i64 b] 3))
  have hc : ∀ j, j < [e, f, b].length → ((w.alloc (.cells #[.int .i64 e, .int .i64 f, .int .i64 b] 23)).alloc (.cells #[.int .i64 e, .int .i64 f, .int .i64 b] 3)).cell? ⟨w.heap.size + 1, 0 + j, none⟩ = some (.int .i64 ([e, f, b].getD j 0)) := by
    intro j hj
    obtain rfl | rfl | rfl : j = 0 ∨ j = 1 ∨ j = 2 := by simp at hj; omega
    all_goals simp
  have HC := Aside0.mk hc
  clear hc
  by_cases h0 : 0 ≤ Lib.minOf [e, f, b]
  · have b0 : decide (0 ≤ Lib.minOf [e, f, b]) = true := decide_eq_true h0
    have HT := Aside0.mk (show limB e f b = decide (Lib.maxOf [e, f, b] ≤ 65536) by unfold limB; rw [b0]; rfl)
    clear h0
    go_enter Tryd.func38, Tryd.ntmps38
    go_wp2_with (first | (go_at_call 65; refine (min3 (w.heap.size + 1) e f b _ HC.out).mono ?_; rintro r w' ⟨rfl, rfl⟩) | (go_at_call 66; refine (max3 (w.heap.size + 1) e f b _ HC.out).mono ?_; rintro r w' ⟨rfl, rfl⟩))
    go_ret
    exact ⟨by rw [HT.out]; rfl, HB.out⟩
  · have b0 : decide (0 ≤ Lib.minOf [e, f, b]) = false := decide_eq_false h0
    have HT := Aside0.mk (show limB e f b = false by unfold limB; rw [b0]; rfl)
    clear h0
    go_enter Tryd.func38, Tryd.ntmps38
    go_wp2_with (first | (go_at_call 65; refine (min3 (w.heap.size + 1) e f b _ HC.out).mono ?_; rintro r w' ⟨rfl, rfl⟩))
    go_ret
    exact ⟨by rw [HT.out]; rfl, HB.out⟩

def dc0 (e f b : Int) : Dc := ⟨e, f, b, 0, 0, 0, 0, 0, [], [], 0, 0, 0⟩
/-- What New leaves where the limits are right. -/
def NewPost (e f b : Int) (w : World) (r : Ending) (w' : World) : Prop :=
  ∃ g, r = .returned (.tuple #[.pointer (some ⟨g, 0, none⟩), .int .i64 0]) ∧ w.heap.size ≤ g ∧ DcAt w' w.heap.size g (fun _ => False) (dc0 e f b) ∧ Below w.heap.size w w'
theorem new_yes (e f b : Int) (w : World) (h : limB e f b = true) :
    Calls Tryd.prog 17 #[.agg #[.int .i64 e, .int .i64 f, .int .i64 b]] w (NewPost e f b w) := by
  have HT := Aside0.mk h
  have HB := Aside0.mk ((Below.refl w.heap.size w).alloc (Nat.le_refl _) (.cells #[.int .i64 e, .int .i64 f, .int .i64 b] 23))
  clear h
  go_enter Tryd.func17, Tryd.ntmps17
  go_wp2_with fail
  refine (bright_calls e f b _).mono ?_
  rintro r w1 ⟨rfl, hb⟩
  rw [HT.out]
  have k0 : w1.cell? ⟨w.heap.size, 0, none⟩ = some (.int .i64 e) := (hb.cell (p := ⟨w.heap.size, 0, none⟩) (by simp)).trans (World.cell?_alloc_new w #[.int .i64 e, .int .i64 f, .int .i64 b] 23 0)
  have k1 : w1.cell? ⟨w.heap.size, 1, none⟩ = some (.int .i64 f) := (hb.cell (p := ⟨w.heap.size, 1, none⟩) (by simp)).trans (World.cell?_alloc_new w #[.int .i64 e, .int .i64 f, .int .i64 b] 23 1)
  have k2 : w1.cell? ⟨w.heap.size, 2, none⟩ = some (.int .i64 b) := (hb.cell (p := ⟨w.heap.size, 2, none⟩) (by simp)).trans (World.cell?_alloc_new w #[.int .i64 e, .int .i64 f, .int .i64 b] 23 2)
  have HB1 := Aside0.mk (below_then HB.out HB.out.size hb)
  clear hb
  go_wp2_with fail
  go_ret2
  refine ⟨w1.heap.size, rfl, HB1.out.size, ⟨HB1.out.size, .slice none 0 0, .slice none 0 0, heap_alloc_new w1 _, Kd.R_nil _ _ _ _ _, Kd.R_nil _ _ _ _ _⟩, HB1.out.alloc HB1.out.size _⟩
theorem new_no (e f b : Int) (w : World) (h : limB e f b = false) :
    Calls Tryd.prog 17 #[.agg #[.int .i64 e, .int .i64 f, .int .i64 b]] w fun r w' => r = .returned (.tuple #[.pointer none, .int .i64 1]) ∧ Below w.heap.size w w' := by
  have HT := Aside0.mk h
  have HB := Aside0.mk ((Below.refl w.heap.size w).alloc (Nat.le_refl _) (.cells #[.int .i64 e, .int .i64 f, .int .i64 b] 23))
  clear h
  go_enter Tryd.func17, Tryd.ntmps17
  go_wp2_with fail
  refine (bright_calls e f b _).mono ?_
  rintro r w1 ⟨rfl, hb⟩
  rw [HT.out]
  have HB1 := Aside0.mk (below_then HB.out HB.out.size hb)
  clear hb
  go_wp2_with fail
  go_ret2
  exact ⟨rfl, HB1.out⟩

/-- A slice of fields that reads as xs. -/
def FieldsAt (w : World) (v : Value) (xs : List S53) : Prop := ∃ A c, v = .slice A xs.length c ∧ xs.length ≤ c ∧ Kd.C k53 w A xs.length xs
theorem fieldsAt_nil (w : World) : FieldsAt w (.slice none 0 0) [] := ⟨none, 0, rfl, Nat.le_refl _, by
  obtain ⟨A, c, h1, h2, h3⟩ := Kd.R_reads (Kd.R_nil k53 53 w 0 (fun _ => True))
  simp only [Value.slice.injEq] at h1
  obtain ⟨rfl, _, _⟩ := h1
  exact h3⟩
/-- What a function that hands fields back leaves. -/
def FieldsPost (xs : List S53) (w : World) (e : Ending) (w' : World) : Prop := ∃ v, e = .returned v ∧ FieldsAt w' v xs ∧ Below w.heap.size w w'

theorem R_empty (w : World) (base : Nat) (hb : base ≤ w.heap.size) : Kd.R k53 53 (w.alloc (.cells #[] 53)) base (fun k => w.heap.size ≤ k) (.slice (some ⟨w.heap.size, 0, none⟩) 0 0) [] :=
  ⟨fun k hk => by
    have : w.heap.size = k := by simpa [Value.ownBlock] using hk
    omega, [], ⟨rfl, .inr ⟨w.heap.size, 0, #[], rfl, hb, heap_alloc_new w _, Nat.le_refl _, Nat.zero_le _, by simp, rfl⟩⟩, Reps.none _ _⟩

set_option maxRecDepth 100000 in
theorem clone_calls (A : Option Addr) (c : Nat) (xs : List S53) (w : World) (h : Kd.C k53 w A xs.length xs) (hA : A = none → xs = []) (hl : xs.length ≤ 1000000) :
    Calls Tryd.prog 58 #[.slice A xs.length c] w (FieldsPost xs w) := by
  cases A with
  | none =>
    obtain rfl := hA rfl
    have hq := fun w => Lib.run_eql_slice_nil (P := Tryd.prog) w 37 53 none 0 c 0 0 Tryd.underlying37
    have HF := Aside0.mk (fieldsAt_nil w)
    clear h hA hl
    go_enter Tryd.func58, Tryd.ntmps58
    go_wp2_with fail
    go_ret
    exact ⟨_, rfl, HF.out, Below.refl _ _⟩
  | some a =>
    have hq := fun w => Lib.run_eql_slice_nil (P := Tryd.prog) w 37 53 (some a) xs.length c 0 0 Tryd.underlying37
    have H := Aside0.mk h
    have HL := Aside0.mk hl
    clear h hA hl
    go_enter Tryd.func58, Tryd.ntmps58
    have HE := Aside0.mk (R_empty w w.heap.size (Nat.le_refl _))
    have HC : Aside0 (Kd.C k53 (w.alloc (.cells #[] 53)) (some a) xs.length xs) := ⟨Kd.C_below H.out ((Below.refl _ _).alloc (Nat.le_refl _) _)⟩
    have HBB := Aside0.mk ((Below.refl w.heap.size w).alloc (Nat.le_refl _) (.cells #[] 53))
    have HLL : Aside0 ((([] : List S53).length + xs.length) * 32 ≤ 140737488355328) := ⟨by have := HL.out; simp only [List.length_nil]; omega⟩
    go_wp2_with ((with_reducible refine gate_builtin (b := .append) (xs := #[.tmp 5, .tmp 6]) rfl ?_); at_builtin; (refine Kd.R_append_rows k53 (Rr := k53.K (w.alloc (.cells #[] 53))) (w0 := w) w.heap.size rfl (.tmp 5) (.tmp 6) 37 53 (.agg #[.string ⟨#[]⟩, .string ⟨#[]⟩]) 32 rfl Tryd.underlying37 info53 rfl (by decide) (by decide) (.slice (some ⟨w.heap.size, 0, none⟩) 0 0) [] xs (some a) xs.length c (fun k => w.heap.size ≤ k) (fun _ => False) rfl rfl HE.out HC.out (fun x cs h => by have := k53_open h; rw [this]; exact k53_mkM _ _ _ x) (fun _ h => h.elim) (fun k hk => by simp at hk; omega) HBB.out (by simp) HLL.out ?_); intro v1 w1 hR1 hB1 hg1 hat1)
    go_ret
    refine ⟨_, rfl, ?_, hB1⟩
    exact Kd.R_reads hR1

theorem done_calls {B g : Nat} {S : Nat → Prop} {d : Dc} {w : World} (h : DcAt w B g S d) : Calls Tryd.prog 19 #[.pointer (some ⟨g, 0, none⟩)] w fun e w' => e = .returned (.bool (d.place == 11)) ∧ w = w' := by
  have c3 := h.get_place
  clear h
  go_enter Tryd.func19, Tryd.ntmps19
  go_wp2_with fail
  go_ret
  exact ⟨rfl, rfl⟩
theorem taken_calls {B g : Nat} {S : Nat → Prop} {d : Dc} {w : World} (h : DcAt w B g S d) : Calls Tryd.prog 20 #[.pointer (some ⟨g, 0, none⟩)] w fun e w' => e = .returned (.int .i64 d.taken) ∧ w = w' := by
  have c3 := h.get_taken
  clear h
  go_enter Tryd.func20, Tryd.ntmps20
  go_wp2_with fail
  go_ret
  exact ⟨rfl, rfl⟩
theorem err_calls {B g : Nat} {S : Nat → Prop} {d : Dc} {w : World} (h : DcAt w B g S d) : Calls Tryd.prog 21 #[.pointer (some ⟨g, 0, none⟩)] w fun e w' => e = .returned (.int .i64 d.e) ∧ w = w' := by
  have c3 := h.get_e
  clear h
  go_enter Tryd.func21, Tryd.ntmps21
  go_wp2_with fail
  go_ret
  exact ⟨rfl, rfl⟩
theorem given_calls {B g : Nat} {S : Nat → Prop} {d : Dc} {w : World} (h : DcAt w B g S d) : Calls Tryd.prog 22 #[.pointer (some ⟨g, 0, none⟩)] w fun e w' => e = .returned (.int .i64 d.given) ∧ w = w' := by
  have c3 := h.get_given
  clear h
  go_enter Tryd.func22, Tryd.ntmps22
  go_wp2_with fail
  go_ret
  exact ⟨rfl, rfl⟩
def dcLeft (d : Dc) : Int := if d.place = 3 then d.n else 0
theorem left_calls {B g : Nat} {S : Nat → Prop} {d : Dc} {w : World} (h : DcAt w B g S d) : Calls Tryd.prog 25 #[.pointer (some ⟨g, 0, none⟩)] w fun e w' => e = .returned (.int .u64 (dcLeft d)) ∧ w = w' := by
  have c3 := h.get_place
  have c4 := h.get_n
  clear h
  by_cases hp : d.place = 3
  · have HP := Aside0.mk (show dcLeft d = d.n by unfold dcLeft; rw [if_pos hp])
    have b : (d.place == 3) = true := beq_iff_eq.mpr hp
    have b2 : (d.place != 3) = false := bne_eq_false_iff_eq.mpr hp
    clear hp
    go_enter Tryd.func25, Tryd.ntmps25
    go_wp2_with fail
    go_ret
    exact ⟨by rw [HP.out]; rfl, rfl⟩
  · have HP := Aside0.mk (show dcLeft d = 0 by unfold dcLeft; rw [if_neg hp])
    have b : (d.place == 3) = false := beq_eq_false_iff_ne.mpr hp
    have b2 : (d.place != 3) = true := bne_iff_ne.mpr hp
    clear hp
    go_enter Tryd.func25, Tryd.ntmps25
    go_wp2_with fail
    go_ret
    exact ⟨by rw [HP.out]; rfl, rfl⟩

/-- Fields' answer. -/
def dcFields (d : Dc) : List S53 := if d.place = 11 then d.fields else []
set_option maxRecDepth 100000 in
theorem fields_calls {B g : Nat} {S : Nat → Prop} {d : Dc} {w : World} (h : DcAt w B g S d) (hl : d.fields.length ≤ 1000000) :
    Calls Tryd.prog 27 #[.pointer (some ⟨g, 0, none⟩)] w (FieldsPost (dcFields d) w) := by
  obtain ⟨vl, vf, hraw⟩ := h.raw
  have c3 := h.get_place
  have c9 := hraw.get_fields
  by_cases hp : d.place = 11
  · have HP := Aside0.mk (show dcFields d = d.fields by unfold dcFields; rw [if_pos hp])
    rw [HP.out]
    have b : (d.place == 11) = true := beq_iff_eq.mpr hp
    obtain ⟨A, c, rfl, hle, hC⟩ := Kd.R_reads hraw.2.2.2
    have hA : A = none → d.fields = [] := by
      rintro rfl
      obtain ⟨inner, ho⟩ := Kd.R_own hraw.2.2.2
      rcases ho.2 with ⟨_, h0⟩ | ⟨g', cap, cur, he, _⟩
      · exact List.eq_nil_of_length_eq_zero h0
      · simp at he
    have HC := Aside0.mk hC
    have HA := Aside0.mk hA
    have HL := Aside0.mk hl
    have HD := Aside0.mk h
    clear hC hA hl hle hraw h hp HP
    go_enter Tryd.func27, Tryd.ntmps27
    go_wp2_with (first | (go_at_call 19; refine (done_calls HD.out).mono ?_; rintro e w' ⟨rfl, rfl⟩) | (go_at_call 58; refine (clone_calls A c d.fields _ HC.out HA.out HL.out).mono ?_; rintro e w' ⟨v, rfl, hv, hb⟩))
    go_ret
    exact ⟨_, rfl, hv, hb⟩
  · have HP := Aside0.mk (show dcFields d = [] by unfold dcFields; rw [if_neg hp])
    rw [HP.out]
    have b : (d.place == 11) = false := beq_eq_false_iff_ne.mpr hp
    have HD := Aside0.mk h
    have HF := Aside0.mk (fieldsAt_nil w)
    clear hl hraw h hp HP
    go_enter Tryd.func27, Tryd.ntmps27
    go_wp2_with (first | (go_at_call 19; refine (done_calls HD.out).mono ?_; rintro e w' ⟨rfl, rfl⟩))
    go_ret
    exact ⟨_, rfl, HF.out, Below.refl _ _⟩
end Go.Proofs.YtebjfgkgfgbndaaDoor

namespace Go.Proofs.YtebjfgkgfgbndaaDoor
open Go.RowKit Go.Proofs.YtebjfgkgfgbndaaDoorW.PrintWords Go.Proofs.YtebjfgkgfgbndaaDoorW.PrintLast Go.Proofs.YtebjfgkgfgbndaaDoorW.PrintMore
open PBodyScans
set_option linter.unusedVariables false
set_option linter.unusedSimpArgs false

theorem limB_iff (e f b : Int) : limB e f b = true ↔ (0 ≤ e ∧ e ≤ 65536) ∧ (0 ≤ f ∧ f ≤ 65536) ∧ 0 ≤ b ∧ b ≤ 65536 := by
  have h1 : Lib.minOf [e, f, b] = min (min (min e e) f) b := rfl
  have h2 : Lib.maxOf [e, f, b] = max (max (max e e) f) b := rfl
  unfold limB
  rw [h1, h2, Bool.and_eq_true, decide_eq_true_eq, decide_eq_true_eq]
  constructor
  · intro h; omega
  · intro h; omega
theorem right_f (e f b : Int) : catchpitref08_Right.f e f b = some (limB e f b) := by
  have h := limB_iff e f b
  unfold catchpitref08_Right.f
  cases hb : limB e f b
  · rw [hb] at h
    have h' := mt h.mpr (by decide)
    repeat' split
    all_goals (first | rfl | (congr 1; apply decide_eq_false; omega))
  · have h' := h.mp hb
    rw [if_pos (by omega), if_pos (by omega), if_pos (by omega), if_pos (by omega), if_pos (by omega)]
    congr 1
    apply decide_eq_true
    omega
theorem dc0_inv {e f b : Int} (h : limB e f b = true) : DInv (dc0 e f b) := by
  have h' := (limB_iff e f b).mp h
  refine ⟨⟨?_, ?_, ?_, ?_, ?_, ?_, ?_, ?_, ?_, ?_, ?_, ?_, ?_, ?_, ?_, ?_⟩, ?_, ?_, ?_, ?_, ?_, ?_⟩ <;> simp [dc0] <;> omega

/-- What holds of Put's loop where it ends. -/
structure PutEnd (b : List Int) (d : Dc) (n : Int) (out : List Int) (r : Dc × Int × List Int) : Prop where
  inv : DInv r.1
  tg : r.1.taken = d.taken ∧ r.1.given = d.given
  lim : r.1.ext = d.ext ∧ r.1.flds = d.flds ∧ r.1.byts = d.byts
  n0 : n ≤ r.2.1
  n1 : r.2.1 ≤ b.length
  out0 : out.length ≤ r.2.2.length
  out1 : (r.2.2.length : Int) - out.length ≤ r.2.1 - n
  stop : r.1.e = 0 → r.1.place ≠ 11 → r.2.1 = b.length

def LM (d : Dc) (r : Dc × Int) : Prop := r.1.ext = d.ext ∧ r.1.flds = d.flds ∧ r.1.byts = d.byts
theorem lm_ite {d : Dc} {p : Prop} [Decidable p] {a b : Dc × Int} (ha : LM d a) (hb : LM d b) : LM d (if p then a else b) := by split <;> assumption
theorem dTo_lm (d : Dc) (p : Int) (ok : Bool) : LM d (dTo d p ok) := lm_ite ⟨rfl, rfl, rfl⟩ ⟨rfl, rfl, rfl⟩
theorem dMore_lm (d : Dc) (c p : Int) : LM d (dMore d c p) := lm_ite ⟨rfl, rfl, rfl⟩ ⟨rfl, rfl, rfl⟩
theorem dExt_lm (d : Dc) (c : Int) : LM d (dExt d c) := lm_ite ⟨rfl, rfl, rfl⟩ (lm_ite ⟨rfl, rfl, rfl⟩ (lm_ite ⟨rfl, rfl, rfl⟩ ⟨rfl, rfl, rfl⟩))
theorem dDigit_lm (d : Dc) (c : Int) : LM d (dDigit d c) := by
  have h := dExt_lm { d with count := 0, place := 1 } c
  exact lm_ite (lm_ite ⟨rfl, rfl, rfl⟩ ⟨rfl, rfl, rfl⟩) (lm_ite ⟨rfl, rfl, rfl⟩ (lm_ite (lm_ite ⟨h.1, h.2⟩ ⟨h.1, h.2⟩) (dTo_lm _ _ _)))
theorem dStep_lm (d : Dc) (c : Int) : LM d (dStep d c) := by
  have h := dMore_lm d c 7
  refine lm_ite (dDigit_lm _ _) (lm_ite (dExt_lm _ _) (lm_ite (lm_ite (dTo_lm _ _ _) (dTo_lm _ _ _)) (lm_ite (dTo_lm _ _ _) (lm_ite (dTo_lm { d with count := 0 } _ _) (lm_ite (lm_ite ⟨rfl, rfl, rfl⟩ (lm_ite ⟨rfl, rfl, rfl⟩ (lm_ite ⟨rfl, rfl, rfl⟩ (lm_ite ⟨h.1, h.2⟩ h)))) (lm_ite (lm_ite (dMore_lm _ _ _) (lm_ite ⟨rfl, rfl, rfl⟩ (dMore_lm _ _ _))) (lm_ite (lm_ite (dMore_lm _ _ _) (lm_ite ⟨rfl, rfl, rfl⟩ (dMore_lm _ _ _))) (lm_ite (lm_ite ⟨rfl, rfl, rfl⟩ (lm_ite ⟨rfl, rfl, rfl⟩ ⟨rfl, rfl, rfl⟩)) (dTo_lm _ _ _)))))))))

theorem putG_ends (b : List Int) : ∀ (k : Nat) (d : Dc) (n : Int) (out : List Int), DInv d → 0 ≤ n → n ≤ b.length → (b.length : Int) - n + 2 ≤ k ∨ (d.e ≠ 0 ∧ 1 ≤ k) → ∃ r, putG b k d n out = some r ∧ PutEnd b d n out r
  | 0, d, n, out, hi, h0, h1, hk => by omega
  | k + 1, d, n, out, hi, h0, h1, hk => by
    have hend : (d.e = 0 → d.place ≠ 11 → n = b.length) → PutEnd b d n out (d, n, out) := fun h => ⟨hi, ⟨rfl, rfl⟩, ⟨rfl, rfl, rfl⟩, Int.le_refl n, h1, Nat.le_refl _, by show (out.length : Int) - out.length ≤ n - n; omega, h⟩
    simp only [putG]
    by_cases hn : n < (b.length : Int)
    · rw [if_pos hn]
      by_cases he : d.e = 0
      · rw [if_pos he]
        have hk' : (b.length : Int) - n + 2 ≤ (k : Int) + 1 := by rcases hk with h | h; · omega
                                                                  · exact absurd he h.1
        by_cases h11 : d.place ≠ 11
        · rw [if_pos h11]
          by_cases h3 : d.place = 3
          · rw [if_pos h3]
            have n1 := hi.n3 h3
            obtain ⟨m, hm⟩ : ∃ m, min d.n ((b.length : Int) - n) = m := ⟨_, rfl⟩
            rw [hm]
            obtain ⟨r, e, hr⟩ := putG_ends b k _ (n + m) (out ++ (b.take (n + m).toNat).drop n.toNat) (dData_inv hi h3 m (by omega) (by omega)) (by omega) (by omega) (.inl (by omega))
            refine ⟨r, e, ⟨hr.inv, hr.tg, hr.lim, by have := hr.n0; omega, hr.n1, ?_, ?_, hr.stop⟩⟩
            · have := hr.out0
              rw [List.length_append] at this
              omega
            · have h5 := hr.out1
              have h6 := hr.out0
              rw [List.length_append, List.length_drop, List.length_take] at h5
              omega
          · rw [if_neg h3]
            have hs := dStep_inv hi h3 h11 (rd b n)
            have ht := dStep_tg d (rd b n)
            have hl := dStep_lm d (rd b n)
            by_cases hr0 : (dStep d (rd b n)).2 = 0
            · rw [if_pos hr0]
              obtain ⟨r, e, hr⟩ := putG_ends b k { (dStep d (rd b n)).1 with e := 0 } (n + 1) out (hs.e 0) (by omega) (by omega) (.inl (by omega))
              exact ⟨r, e, ⟨hr.inv, ⟨hr.tg.1.trans ht.1, hr.tg.2.trans ht.2⟩, ⟨hr.lim.1.trans hl.1, hr.lim.2.1.trans hl.2.1, hr.lim.2.2.trans hl.2.2⟩, by have := hr.n0; omega, hr.n1, hr.out0, by have := hr.out1; omega, hr.stop⟩⟩
            · rw [if_neg hr0]
              obtain ⟨r, e, hr⟩ := putG_ends b k { (dStep d (rd b n)).1 with e := (dStep d (rd b n)).2 } n out (hs.e _) h0 h1 (.inr ⟨hr0, by omega⟩)
              exact ⟨r, e, ⟨hr.inv, ⟨hr.tg.1.trans ht.1, hr.tg.2.trans ht.2⟩, ⟨hr.lim.1.trans hl.1, hr.lim.2.1.trans hl.2.1, hr.lim.2.2.trans hl.2.2⟩, hr.n0, hr.n1, hr.out0, hr.out1, hr.stop⟩⟩
        · rw [if_neg h11]
          exact ⟨_, rfl, hend fun _ h => absurd h h11⟩
      · rw [if_neg he]
        exact ⟨_, rfl, hend fun h => absurd h he⟩
    · rw [if_neg hn]
      exact ⟨_, rfl, hend fun _ _ => by omega⟩

theorem putG_still (b : List Int) (k : Nat) (d : Dc) (n : Int) (out : List Int) (h : d.e ≠ 0 ∨ d.place = 11) : putG b (k + 1) d n out = some (d, n, out) := by
  simp only [putG]
  by_cases hn : n < (b.length : Int)
  · rw [if_pos hn]
    by_cases he : d.e = 0
    · rw [if_pos he, if_neg (by rcases h with h | h; exact absurd he h; exact fun e => e h)]
    · rw [if_neg he]
  · rw [if_neg hn]

theorem wake1 : putG [51] 3 (dc0 0 0 0) 0 [] = some ({ dc0 0 0 0 with n := 3, count := 1 }, 1, []) := by kernel_rfl
theorem wake2 : putG [13, 10, 97, 98] 6 { dc0 0 0 0 with n := 3, count := 1, taken := 1 } 0 [] = some ({ dc0 0 0 0 with n := 1, count := 1, taken := 1, place := 3 }, 4, [97, 98]) := by kernel_rfl

theorem DcAt.bound {w : World} {B g : Nat} {S : Nat → Prop} {d : Dc} (h : DcAt w B g S d) : DcAt w B g (fun k => S k ∧ k < w.heap.size) d := by
  obtain ⟨h0, vl, vf, h1, h2, h3⟩ := h
  exact ⟨h0, vl, vf, h1, Kd.R_mono (Kd.R_bound h2) (fun k hk => ⟨hk.1, hk.2.2.1⟩), Kd.R_mono (Kd.R_bound h3) (fun k hk => ⟨hk.1, hk.2.2.1⟩)⟩
end Go.Proofs.YtebjfgkgfgbndaaDoor
