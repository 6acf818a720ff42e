/- The chunked decoder's Put, plainly: it ends, what it keeps, when it takes nothing. -/
import Derived.Test.YtebjfgkgfgbndaaDoorHk
namespace Go.Proofs.YtebjfgkgfgbndaaDoor
open Go.RowKit Go.Proofs.YtebjfgkgfgbndaaDoorW.PrintWords Go.Proofs.YtebjfgkgfgbndaaDoorW.PrintLast Go.Proofs.YtebjfgkgfgbndaaDoorW.PrintMore
open PBodyScans
set_option linter.unusedVariables false
set_option linter.unusedSimpArgs false

theorem limB_iff (e f b : Int) : limB e f b = true ↔ (0 ≤ e ∧ e ≤ 65536) ∧ (0 ≤ f ∧ f ≤ 65536) ∧ 0 ≤ b ∧ b ≤ 65536 := by
  have h1 : Lib.minOf [e, f, b] = min (min (min e e) f) b := rfl
  have h2 : Lib.maxOf [e, f, b] = max (max (max e e) f) b := rfl
  unfold limB
  rw [h1, h2, Bool.and_eq_true, decide_eq_true_eq, decide_eq_true_eq]
  constructor
  · intro h; omega
  · intro h; omega
theorem right_f (e f b : Int) : catchpitref08_Right.f e f b = some (limB e f b) := by
  have h := limB_iff e f b
  unfold catchpitref08_Right.f
  cases hb : limB e f b
  · rw [hb] at h
    have h' := mt h.mpr (by decide)
    repeat' split
    all_goals (first | rfl | (congr 1; apply decide_eq_false; omega))
  · have h' := h.mp hb
    rw [if_pos (by omega), if_pos (by omega), if_pos (by omega), if_pos (by omega), if_pos (by omega)]
    congr 1
    apply decide_eq_true
    omega
theorem dc0_inv {e f b : Int} (h : limB e f b = true) : DInv (dc0 e f b) := by
  have h' := (limB_iff e f b).mp h
  refine ⟨⟨?_, ?_, ?_, ?_, ?_, ?_, ?_, ?_, ?_, ?_, ?_, ?_, ?_, ?_, ?_, ?_⟩, ?_, ?_, ?_, ?_, ?_, ?_⟩ <;> simp [dc0] <;> omega

/-- What holds of Put's loop where it ends. -/
structure PutEnd (b : List Int) (d : Dc) (n : Int) (out : List Int) (r : Dc × Int × List Int) : Prop where
  inv : DInv r.1
  tg : r.1.taken = d.taken ∧ r.1.given = d.given
  lim : r.1.ext = d.ext ∧ r.1.flds = d.flds ∧ r.1.byts = d.byts
  n0 : n ≤ r.2.1
  n1 : r.2.1 ≤ b.length
  out0 : out.length ≤ r.2.2.length
  out1 : (r.2.2.length : Int) - out.length ≤ r.2.1 - n
  stop : r.1.e = 0 → r.1.place ≠ 11 → r.2.1 = b.length

def LM (d : Dc) (r : Dc × Int) : Prop := r.1.ext = d.ext ∧ r.1.flds = d.flds ∧ r.1.byts = d.byts
theorem lm_ite {d : Dc} {p : Prop} [Decidable p] {a b : Dc × Int} (ha : LM d a) (hb : LM d b) : LM d (if p then a else b) := by split <;> assumption
theorem dTo_lm (d : Dc) (p : Int) (ok : Bool) : LM d (dTo d p ok) := lm_ite ⟨rfl, rfl, rfl⟩ ⟨rfl, rfl, rfl⟩
theorem dMore_lm (d : Dc) (c p : Int) : LM d (dMore d c p) := lm_ite ⟨rfl, rfl, rfl⟩ ⟨rfl, rfl, rfl⟩
theorem dExt_lm (d : Dc) (c : Int) : LM d (dExt d c) := lm_ite ⟨rfl, rfl, rfl⟩ (lm_ite ⟨rfl, rfl, rfl⟩ (lm_ite ⟨rfl, rfl, rfl⟩ ⟨rfl, rfl, rfl⟩))
theorem dDigit_lm (d : Dc) (c : Int) : LM d (dDigit d c) := by
  have h := dExt_lm { d with count := 0, place := 1 } c
  exact lm_ite (lm_ite ⟨rfl, rfl, rfl⟩ ⟨rfl, rfl, rfl⟩) (lm_ite ⟨rfl, rfl, rfl⟩ (lm_ite (lm_ite ⟨h.1, h.2⟩ ⟨h.1, h.2⟩) (dTo_lm _ _ _)))
theorem dStep_lm (d : Dc) (c : Int) : LM d (dStep d c) := by
  have h := dMore_lm d c 7
  refine lm_ite (dDigit_lm _ _) (lm_ite (dExt_lm _ _) (lm_ite (lm_ite (dTo_lm _ _ _) (dTo_lm _ _ _)) (lm_ite (dTo_lm _ _ _) (lm_ite (dTo_lm { d with count := 0 } _ _) (lm_ite (lm_ite ⟨rfl, rfl, rfl⟩ (lm_ite ⟨rfl, rfl, rfl⟩ (lm_ite ⟨rfl, rfl, rfl⟩ (lm_ite ⟨h.1, h.2⟩ h)))) (lm_ite (lm_ite (dMore_lm _ _ _) (lm_ite ⟨rfl, rfl, rfl⟩ (dMore_lm _ _ _))) (lm_ite (lm_ite (dMore_lm _ _ _) (lm_ite ⟨rfl, rfl, rfl⟩ (dMore_lm _ _ _))) (lm_ite (lm_ite ⟨rfl, rfl, rfl⟩ (lm_ite ⟨rfl, rfl, rfl⟩ ⟨rfl, rfl, rfl⟩)) (dTo_lm _ _ _)))))))))

theorem putG_ends (b : List Int) : ∀ (k : Nat) (d : Dc) (n : Int) (out : List Int), DInv d → 0 ≤ n → n ≤ b.length → (b.length : Int) - n + 2 ≤ k ∨ (d.e ≠ 0 ∧ 1 ≤ k) → ∃ r, putG b k d n out = some r ∧ PutEnd b d n out r
  | 0, d, n, out, hi, h0, h1, hk => by omega
  | k + 1, d, n, out, hi, h0, h1, hk => by
    have hend : (d.e = 0 → d.place ≠ 11 → n = b.length) → PutEnd b d n out (d, n, out) := fun h => ⟨hi, ⟨rfl, rfl⟩, ⟨rfl, rfl, rfl⟩, Int.le_refl n, h1, Nat.le_refl _, by show (out.length : Int) - out.length ≤ n - n; omega, h⟩
    simp only [putG]
    by_cases hn : n < (b.length : Int)
    · rw [if_pos hn]
      by_cases he : d.e = 0
      · rw [if_pos he]
        have hk' : (b.length : Int) - n + 2 ≤ (k : Int) + 1 := by rcases hk with h | h; · omega
                                                                  · exact absurd he h.1
        by_cases h11 : d.place ≠ 11
        · rw [if_pos h11]
          by_cases h3 : d.place = 3
          · rw [if_pos h3]
            have n1 := hi.n3 h3
            obtain ⟨m, hm⟩ : ∃ m, min d.n ((b.length : Int) - n) = m := ⟨_, rfl⟩
            rw [hm]
            obtain ⟨r, e, hr⟩ := putG_ends b k _ (n + m) (out ++ (b.take (n + m).toNat).drop n.toNat) (dData_inv hi h3 m (by omega) (by omega)) (by omega) (by omega) (.inl (by omega))
            refine ⟨r, e, ⟨hr.inv, hr.tg, hr.lim, by have := hr.n0; omega, hr.n1, ?_, ?_, hr.stop⟩⟩
            · have := hr.out0
              rw [List.length_append] at this
              omega
            · have h5 := hr.out1
              have h6 := hr.out0
              rw [List.length_append, List.length_drop, List.length_take] at h5
              omega
          · rw [if_neg h3]
            have hs := dStep_inv hi h3 h11 (rd b n)
            have ht := dStep_tg d (rd b n)
            have hl := dStep_lm d (rd b n)
            by_cases hr0 : (dStep d (rd b n)).2 = 0
            · rw [if_pos hr0]
              obtain ⟨r, e, hr⟩ := putG_ends b k { (dStep d (rd b n)).1 with e := 0 } (n + 1) out (hs.e 0) (by omega) (by omega) (.inl (by omega))
              exact ⟨r, e, ⟨hr.inv, ⟨hr.tg.1.trans ht.1, hr.tg.2.trans ht.2⟩, ⟨hr.lim.1.trans hl.1, hr.lim.2.1.trans hl.2.1, hr.lim.2.2.trans hl.2.2⟩, by have := hr.n0; omega, hr.n1, hr.out0, by have := hr.out1; omega, hr.stop⟩⟩
            · rw [if_neg hr0]
              obtain ⟨r, e, hr⟩ := putG_ends b k { (dStep d (rd b n)).1 with e := (dStep d (rd b n)).2 } n out (hs.e _) h0 h1 (.inr ⟨hr0, by omega⟩)
              exact ⟨r, e, ⟨hr.inv, ⟨hr.tg.1.trans ht.1, hr.tg.2.trans ht.2⟩, ⟨hr.lim.1.trans hl.1, hr.lim.2.1.trans hl.2.1, hr.lim.2.2.trans hl.2.2⟩, hr.n0, hr.n1, hr.out0, hr.out1, hr.stop⟩⟩
        · rw [if_neg h11]
          exact ⟨_, rfl, hend fun _ h => absurd h h11⟩
      · rw [if_neg he]
        exact ⟨_, rfl, hend fun h => absurd h he⟩
    · rw [if_neg hn]
      exact ⟨_, rfl, hend fun _ _ => by omega⟩

theorem putG_still (b : List Int) (k : Nat) (d : Dc) (n : Int) (out : List Int) (h : d.e ≠ 0 ∨ d.place = 11) : putG b (k + 1) d n out = some (d, n, out) := by
  simp only [putG]
  by_cases hn : n < (b.length : Int)
  · rw [if_pos hn]
    by_cases he : d.e = 0
    · rw [if_pos he, if_neg (by rcases h with h | h; exact absurd he h; exact fun e => e h)]
    · rw [if_neg he]
  · rw [if_neg hn]

theorem wake1 : putG [51] 3 (dc0 0 0 0) 0 [] = some ({ dc0 0 0 0 with n := 3, count := 1 }, 1, []) := by kernel_rfl
theorem wake2 : putG [13, 10, 97, 98] 6 { dc0 0 0 0 with n := 3, count := 1, taken := 1 } 0 [] = some ({ dc0 0 0 0 with n := 1, count := 1, taken := 1, place := 3 }, 4, [97, 98]) := by kernel_rfl

theorem DcAt.bound {w : World} {B g : Nat} {S : Nat → Prop} {d : Dc} (h : DcAt w B g S d) : DcAt w B g (fun k => S k ∧ k < w.heap.size) d := by
  obtain ⟨h0, vl, vf, h1, h2, h3⟩ := h
  exact ⟨h0, vl, vf, h1, Kd.R_mono (Kd.R_bound h2) (fun k hk => ⟨hk.1, hk.2.2.1⟩), Kd.R_mono (Kd.R_bound h3) (fun k hk => ⟨hk.1, hk.2.2.1⟩)⟩
end Go.Proofs.YtebjfgkgfgbndaaDoor
