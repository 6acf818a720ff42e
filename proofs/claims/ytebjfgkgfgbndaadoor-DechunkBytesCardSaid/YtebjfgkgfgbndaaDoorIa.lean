/- The chunked decoder's Put, plainly: byte by byte it comes to the same as at once. -/
import Derived.Test.YtebjfgkgfgbndaaDoorHn
namespace Go.Proofs.YtebjfgkgfgbndaaDoor
open Go.RowKit Go.Proofs.YtebjfgkgfgbndaaDoorW.PrintWords Go.Proofs.YtebjfgkgfgbndaaDoorW.PrintLast Go.Proofs.YtebjfgkgfgbndaaDoorW.PrintMore
set_option linter.unusedVariables false

/-- The decoder with other counts of what was taken and given: no step looks at them. -/
def Dc.tg (d : Dc) (t g : Int) : Dc := { d with taken := t, given := g }
def TGo (f : Dc → Int → Dc × Int) : Prop := ∀ d c t g, f (d.tg t g) c = ((f d c).1.tg t g, (f d c).2)
theorem dTo_tgo (d : Dc) (p : Int) (ok : Bool) (t g : Int) : dTo (d.tg t g) p ok = ((dTo d p ok).1.tg t g, (dTo d p ok).2) := by unfold dTo Dc.tg; split <;> rfl
theorem dMore_tgo (d : Dc) (c p : Int) (t g : Int) : dMore (d.tg t g) c p = ((dMore d c p).1.tg t g, (dMore d c p).2) := by
  unfold dMore
  by_cases h : d.size ≥ d.byts
  · rw [if_pos h, if_pos (show (d.tg t g).size ≥ (d.tg t g).byts from h)]
  · rw [if_neg h, if_neg (show ¬ (d.tg t g).size ≥ (d.tg t g).byts from h)]; rfl
theorem ite_tgo {p : Prop} [Decidable p] {a b a' b' : Dc × Int} {t g : Int} (ha : a' = (a.1.tg t g, a.2)) (hb : b' = (b.1.tg t g, b.2)) : (if p then a' else b') = ((if p then a else b).1.tg t g, (if p then a else b).2) := by split <;> assumption
theorem dExt_tgo (d : Dc) (c : Int) (t g : Int) : dExt (d.tg t g) c = ((dExt d c).1.tg t g, (dExt d c).2) :=
  ite_tgo rfl (ite_tgo rfl (ite_tgo rfl rfl))
theorem dDigit_tgo (d : Dc) (c : Int) (t g : Int) : dDigit (d.tg t g) c = ((dDigit d c).1.tg t g, (dDigit d c).2) := by
  have h := dExt_tgo { d with count := 0, place := 1 } c t g
  have e : ({ d with count := 0, place := 1 } : Dc).tg t g = { d.tg t g with count := 0, place := 1 } := rfl
  rw [e] at h
  unfold dDigit
  rw [h]
  exact ite_tgo (ite_tgo rfl rfl) (ite_tgo rfl (ite_tgo (ite_tgo rfl rfl) (dTo_tgo d 2 _ t g)))
theorem dStep_tgo (d : Dc) (c : Int) (t g : Int) : dStep (d.tg t g) c = ((dStep d c).1.tg t g, (dStep d c).2) := by
  unfold dStep
  refine ite_tgo (dDigit_tgo d c t g) (ite_tgo (dExt_tgo d c t g) (ite_tgo (ite_tgo (dTo_tgo d _ _ t g) (dTo_tgo d _ _ t g)) (ite_tgo (dTo_tgo d _ _ t g) (ite_tgo (dTo_tgo { d with count := 0 } _ _ t g) (ite_tgo ?_ (ite_tgo (ite_tgo (dMore_tgo d c _ t g) (ite_tgo rfl (dMore_tgo d c _ t g))) (ite_tgo (ite_tgo (dMore_tgo d c _ t g) (ite_tgo rfl (dMore_tgo d c _ t g))) (ite_tgo (ite_tgo rfl (ite_tgo rfl rfl)) (dTo_tgo d _ _ t g)))))))))
  have h := dMore_tgo d c 7 t g
  unfold dFirst
  rw [h]
  exact ite_tgo (dTo_tgo d 10 true t g) (ite_tgo rfl (ite_tgo rfl (ite_tgo rfl rfl)))

/-- One byte put alone. -/
def bput (d : Dc) (c : Int) : Dc × Int × List Int :=
  if d.e = 0 then
    (if d.place ≠ 11 then
      (if d.place = 3 then ({ d with n := d.n - 1, place := if d.n - 1 = 0 then 4 else 3 }, 1, [c])
       else if (dStep d c).2 = 0 then ({ (dStep d c).1 with e := 0 }, 1, [])
       else ({ (dStep d c).1 with e := (dStep d c).2 }, 0, []))
     else (d, 0, []))
  else (d, 0, [])
/-- Bytes put one at a time. -/
def runB : List Int → Dc → Dc × Int × List Int
  | [], d => (d, 0, [])
  | c :: cs, d => ((runB cs (bput d c).1).1, (bput d c).2.1 + (runB cs (bput d c).1).2.1, (bput d c).2.2 ++ (runB cs (bput d c).1).2.2)

theorem runB_still : ∀ (l : List Int) (d : Dc), d.e ≠ 0 ∨ d.place = 11 → runB l d = (d, 0, [])
  | [], d, _ => rfl
  | c :: cs, d, h => by
    have hb : bput d c = (d, 0, []) := by
      unfold bput
      by_cases he : d.e = 0
      · rw [if_pos he, if_neg (by rcases h with h | h; exact absurd he h; exact fun e => e h)]
      · rw [if_neg he]
    simp only [runB, hb, runB_still cs d h]
    rfl
theorem runB_data : ∀ (l : List Int) (d : Dc) (m : Nat), d.e = 0 → d.place = 3 → 1 ≤ m → m ≤ l.length → (m : Int) ≤ d.n →
    runB l d = ((runB (l.drop m) { d with n := d.n - m, place := if d.n - m = 0 then 4 else 3 }).1, m + (runB (l.drop m) { d with n := d.n - m, place := if d.n - m = 0 then 4 else 3 }).2.1, l.take m ++ (runB (l.drop m) { d with n := d.n - m, place := if d.n - m = 0 then 4 else 3 }).2.2)
  | [], d, m, _, _, h1, h2, _ => by simp at h2; omega
  | c :: cs, d, m, he, h3, h1, h2, h4 => by
    have hb : bput d c = ({ d with n := d.n - 1, place := if d.n - 1 = 0 then 4 else 3 }, 1, [c]) := by
      unfold bput
      rw [if_pos he, if_pos (by omega), if_pos h3]
    simp only [runB, hb]
    by_cases hm : m = 1
    · subst hm
      rfl
    · obtain ⟨m', rfl⟩ : ∃ m', m = m' + 1 := ⟨m - 1, by omega⟩
      have hp : (if d.n - 1 = 0 then (4 : Int) else 3) = 3 := if_neg (by omega)
      rw [hp]
      rw [runB_data cs { d with n := d.n - 1, place := 3 } m' he rfl (by omega) (by simp at h2; omega) (by show (m' : Int) ≤ d.n - 1; omega)]
      have e1 : d.n - 1 - (m' : Int) = d.n - ((m' + 1 : Nat) : Int) := by omega
      simp only [e1, List.drop_succ_cons, List.take_succ_cons, List.cons_append, List.nil_append, Prod.mk.injEq, true_and, and_true]
      omega

theorem putG_run (b : List Int) : ∀ (k : Nat) (d : Dc) (n : Int) (out : List Int) (r : Dc × Int × List Int), DInv d → 0 ≤ n → n ≤ b.length → putG b k d n out = some r →
    r = ((runB (b.drop n.toNat) d).1, n + (runB (b.drop n.toNat) d).2.1, out ++ (runB (b.drop n.toNat) d).2.2)
  | 0, d, n, out, r, hi, h0, h1, h => by simp [putG] at h
  | k + 1, d, n, out, r, hi, h0, h1, h => by
    have hstill : runB (b.drop n.toNat) d = (d, 0, []) → r = (d, n, out) → r = ((runB (b.drop n.toNat) d).1, n + (runB (b.drop n.toNat) d).2.1, out ++ (runB (b.drop n.toNat) d).2.2) := by
      intro e1 e2
      rw [e1, e2]
      simp
    simp only [putG] at h
    by_cases hn : n < (b.length : Int)
    · rw [if_pos hn] at h
      have hd : b.drop n.toNat = rd b n :: b.drop (n.toNat + 1) := by
        rw [List.drop_eq_getElem_cons (by omega)]
        unfold rd
        rw [List.getD_eq_getElem?_getD, List.getElem?_eq_getElem (by omega)]
        rfl
      by_cases he : d.e = 0
      · rw [if_pos he] at h
        by_cases h11 : d.place ≠ 11
        · rw [if_pos h11] at h
          by_cases h3 : d.place = 3
          · rw [if_pos h3] at h
            have n1 := hi.n3 h3
            obtain ⟨m, hm⟩ : ∃ m : Nat, min d.n ((b.length : Int) - n) = m := ⟨(min d.n ((b.length : Int) - n)).toNat, by omega⟩
            rw [hm] at h
            have hx := putG_run b k _ (n + m) _ r (dData_inv hi h3 m (by omega) (by omega)) (by omega) (by omega) h
            have e1 : (n + (m : Int)).toNat = n.toNat + m := by omega
            rw [e1] at hx
            rw [runB_data (b.drop n.toNat) d m he h3 (by omega) (by rw [List.length_drop]; omega) (by omega)]
            rw [hx, List.drop_drop]
            have e2 : (b.take (n.toNat + m)).drop n.toNat = (b.drop n.toNat).take m := by rw [List.drop_take]; congr 1; omega
            rw [e2]
            simp only [List.append_assoc, Prod.mk.injEq, true_and, and_true]
            omega
          · rw [if_neg h3] at h
            by_cases hr0 : (dStep d (rd b n)).2 = 0
            · rw [if_pos hr0] at h
              have hb : bput d (rd b n) = ({ (dStep d (rd b n)).1 with e := 0 }, 1, []) := by
                unfold bput
                rw [if_pos he, if_pos h11, if_neg h3, if_pos hr0]
              have hx := putG_run b k _ (n + 1) out r ((dStep_inv hi h3 h11 _).e 0) (by omega) (by omega) h
              have e1 : (n + 1).toNat = n.toNat + 1 := by omega
              rw [e1] at hx
              rw [hd]
              simp only [runB, hb]
              rw [hx]
              simp only [List.nil_append, Prod.mk.injEq, true_and, and_true]
              omega
            · rw [if_neg hr0] at h
              have hb : bput d (rd b n) = ({ (dStep d (rd b n)).1 with e := (dStep d (rd b n)).2 }, 0, []) := by
                unfold bput
                rw [if_pos he, if_pos h11, if_neg h3, if_neg hr0]
              cases k with
              | zero => simp [putG] at h
              | succ k1 =>
                rw [putG_still b k1 _ n out (.inl hr0)] at h
                have hr := (Option.some.inj h).symm
                rw [hd]
                simp only [runB, hb]
                rw [runB_still _ _ (.inl hr0), hr]
                simp
        · rw [if_neg h11] at h
          exact hstill (runB_still _ _ (.inr (by simpa using h11))) (Option.some.inj h).symm
      · rw [if_neg he] at h
        exact hstill (runB_still _ _ (.inl he)) (Option.some.inj h).symm
    · rw [if_neg hn] at h
      have hd : b.drop n.toNat = [] := List.drop_eq_nil_of_le (by omega)
      exact hstill (by rw [hd]; rfl) (Option.some.inj h).symm

theorem bput_tgo (d : Dc) (c : Int) (t g : Int) : bput (d.tg t g) c = ((bput d c).1.tg t g, (bput d c).2) := by
  have h := dStep_tgo d c t g
  unfold bput
  rw [h]
  by_cases he : d.e = 0
  · rw [if_pos he, if_pos (show (d.tg t g).e = 0 from he)]
    by_cases h11 : d.place ≠ 11
    · rw [if_pos h11, if_pos (show (d.tg t g).place ≠ 11 from h11)]
      by_cases h3 : d.place = 3
      · rw [if_pos h3, if_pos (show (d.tg t g).place = 3 from h3)]; rfl
      · rw [if_neg h3, if_neg (show ¬ (d.tg t g).place = 3 from h3)]
        by_cases hr : (dStep d c).2 = 0
        · rw [if_pos hr, if_pos hr]; rfl
        · rw [if_neg hr, if_neg hr]; rfl
    · rw [if_neg h11, if_neg (show ¬ (d.tg t g).place ≠ 11 from h11)]
  · rw [if_neg he, if_neg (show ¬ (d.tg t g).e = 0 from he)]
theorem runB_snoc : ∀ (l : List Int) (c : Int) (d : Dc), runB (l ++ [c]) d = ((bput (runB l d).1 c).1, (runB l d).2.1 + (bput (runB l d).1 c).2.1, (runB l d).2.2 ++ (bput (runB l d).1 c).2.2)
  | [], c, d => by simp [runB]
  | x :: xs, c, d => by
    simp only [List.cons_append, runB, runB_snoc xs c, List.append_assoc, Prod.mk.injEq, true_and, and_true]
    omega
theorem bput_put {d : Dc} (h : DInv d) (c : Int) : putG [c] 3 d 0 [] = some (bput d c) ∧ PutEnd [c] d 0 [] (bput d c) := by
  obtain ⟨r, e, he⟩ := putG_ends [c] 3 d 0 [] h (Int.le_refl 0) (by simp) (.inl (by simp))
  have hr := putG_run [c] 3 d 0 [] r h (Int.le_refl 0) (by simp) e
  have e2 : r = bput d c := by
    rw [hr]
    simp [runB]
  subst e2
  exact ⟨e, he⟩
theorem putG_all {b : List Int} {d : Dc} (h : DInv d) : putG b (b.length + 2) d 0 [] = some (runB b d) ∧ PutEnd b d 0 [] (runB b d) := by
  obtain ⟨r, e, he⟩ := putG_ends b (b.length + 2) d 0 [] h (Int.le_refl 0) (by omega) (.inl (by omega))
  have hr := putG_run b _ d 0 [] r h (Int.le_refl 0) (by omega) e
  have e2 : r = runB b d := by
    rw [hr]
    simp
  subst e2
  exact ⟨e, he⟩
end Go.Proofs.YtebjfgkgfgbndaaDoor
