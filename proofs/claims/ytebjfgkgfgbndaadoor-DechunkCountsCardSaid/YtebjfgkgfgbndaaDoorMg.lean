/- byte by byte; the reference plainly; midway in Step: contracts (walks) and plain laws over this seat's translation. -/
import Derived.Test.YtebjfgkgfgbndaaDoorMe
namespace Go.Proofs.YtebjfgkgfgbndaaDoor
open Go.RowKit Go.Proofs.YtebjfgkgfgbndaaDoorW.PrintWords Go.Proofs.YtebjfgkgfgbndaaDoorW.PrintLast Go.Proofs.YtebjfgkgfgbndaaDoorW.PrintMore
set_option linter.unusedVariables false

/-- The decoder with other counts of what was taken and given: no step looks at them. -/
def Dc.tg (d : Dc) (t g : Int) : Dc := { d with taken := t, given := g }
def TGo (f : Dc → Int → Dc × Int) : Prop := ∀ d c t g, f (d.tg t g) c = ((f d c).1.tg t g, (f d c).2)
theorem dTo_tgo (d : Dc) (p : Int) (ok : Bool) (t g : Int) : dTo (d.tg t g) p ok = ((dTo d p ok).1.tg t g, (dTo d p ok).2) := by unfold dTo Dc.tg; split <;> rfl
theorem dMore_tgo (d : Dc) (c p : Int) (t g : Int) : dMore (d.tg t g) c p = ((dMore d c p).1.tg t g, (dMore d c p).2) := by
  unfold dMore
  by_cases h : d.size ≥ d.byts
  · rw [if_pos h, if_pos (show (d.tg t g).size ≥ (d.tg t g).byts from h)]
  · rw [if_neg h, if_neg (show ¬ (d.tg t g).size ≥ (d.tg t g).byts from h)]; rfl
theorem ite_tgo {p : Prop} [Decidable p] {a b a' b' : Dc × Int} {t g : Int} (ha : a' = (a.1.tg t g, a.2)) (hb : b' = (b.1.tg t g, b.2)) : (if p then a' else b') = ((if p then a else b).1.tg t g, (if p then a else b).2) := by split <;> assumption
theorem dExt_tgo (d : Dc) (c : Int) (t g : Int) : dExt (d.tg t g) c = ((dExt d c).1.tg t g, (dExt d c).2) :=
  ite_tgo rfl (ite_tgo rfl (ite_tgo rfl rfl))
theorem dDigit_tgo (d : Dc) (c : Int) (t g : Int) : dDigit (d.tg t g) c = ((dDigit d c).1.tg t g, (dDigit d c).2) := by
  have h := dExt_tgo { d with count := 0, place := 1 } c t g
  have e : ({ d with count := 0, place := 1 } : Dc).tg t g = { d.tg t g with count := 0, place := 1 } := rfl
  rw [e] at h
  unfold dDigit
  rw [h]
  exact ite_tgo (ite_tgo rfl rfl) (ite_tgo rfl (ite_tgo (ite_tgo rfl rfl) (dTo_tgo d 2 _ t g)))
theorem dStep_tgo (d : Dc) (c : Int) (t g : Int) : dStep (d.tg t g) c = ((dStep d c).1.tg t g, (dStep d c).2) := by
  unfold dStep
  refine ite_tgo (dDigit_tgo d c t g) (ite_tgo (dExt_tgo d c t g) (ite_tgo (ite_tgo (dTo_tgo d _ _ t g) (dTo_tgo d _ _ t g)) (ite_tgo (dTo_tgo d _ _ t g) (ite_tgo (dTo_tgo { d with count := 0 } _ _ t g) (ite_tgo ?_ (ite_tgo (ite_tgo (dMore_tgo d c _ t g) (ite_tgo rfl (dMore_tgo d c _ t g))) (ite_tgo (ite_tgo (dMore_tgo d c _ t g) (ite_tgo rfl (dMore_tgo d c _ t g))) (ite_tgo (ite_tgo rfl (ite_tgo rfl rfl)) (dTo_tgo d _ _ t g)))))))))
  have h := dMore_tgo d c 7 t g
  unfold dFirst
  rw [h]
  exact ite_tgo (dTo_tgo d 10 true t g) (ite_tgo rfl (ite_tgo rfl (ite_tgo rfl rfl)))

/-- One byte put alone. -/
def bput (d : Dc) (c : Int) : Dc × Int × List Int :=
  if d.e = 0 then
    (if d.place ≠ 11 then
      (if d.place = 3 then ({ d with n := d.n - 1, place := if d.n - 1 = 0 then 4 else 3 }, 1, [c])
       else if (dStep d c).2 = 0 then ({ (dStep d c).1 with e := 0 }, 1, [])
       else ({ (dStep d c).1 with e := (dStep d c).2 }, 0, []))
     else (d, 0, []))
  else (d, 0, [])
/-- Bytes put one at a time. -/
def runB : List Int → Dc → Dc × Int × List Int
  | [], d => (d, 0, [])
  | c :: cs, d => ((runB cs (bput d c).1).1, (bput d c).2.1 + (runB cs (bput d c).1).2.1, (bput d c).2.2 ++ (runB cs (bput d c).1).2.2)

theorem runB_still : ∀ (l : List Int) (d : Dc), d.e ≠ 0 ∨ d.place = 11 → runB l d = (d, 0, [])
  | [], d, _ => rfl
  | c :: cs, d, h => by
    have hb : bput d c = (d, 0, []) := by
      unfold bput
      by_cases he : d.e = 0
      · rw [if_pos he, if_neg (by rcases h with h | h; exact absurd he h; exact fun e => e h)]
      · rw [if_neg he]
    simp only [runB, hb, runB_still cs d h]
    rfl
theorem runB_data : ∀ (l : List Int) (d : Dc) (m : Nat), d.e = 0 → d.place = 3 → 1 ≤ m → m ≤ l.length → (m : Int) ≤ d.n →
    runB l d = ((runB (l.drop m) { d with n := d.n - m, place := if d.n - m = 0 then 4 else 3 }).1, m + (runB (l.drop m) { d with n := d.n - m, place := if d.n - m = 0 then 4 else 3 }).2.1, l.take m ++ (runB (l.drop m) { d with n := d.n - m, place := if d.n - m = 0 then 4 else 3 }).2.2)
  | [], d, m, _, _, h1, h2, _ => by simp at h2; omega
  | c :: cs, d, m, he, h3, h1, h2, h4 => by
    have hb : bput d c = ({ d with n := d.n - 1, place := if d.n - 1 = 0 then 4 else 3 }, 1, [c]) := by
      unfold bput
      rw [if_pos he, if_pos (by omega), if_pos h3]
    simp only [runB, hb]
    by_cases hm : m = 1
    · subst hm
      rfl
    · obtain ⟨m', rfl⟩ : ∃ m', m = m' + 1 := ⟨m - 1, by omega⟩
      have hp : (if d.n - 1 = 0 then (4 : Int) else 3) = 3 := if_neg (by omega)
      rw [hp]
      rw [runB_data cs { d with n := d.n - 1, place := 3 } m' he rfl (by omega) (by simp at h2; omega) (by show (m' : Int) ≤ d.n - 1; omega)]
      have e1 : d.n - 1 - (m' : Int) = d.n - ((m' + 1 : Nat) : Int) := by omega
      simp only [e1, List.drop_succ_cons, List.take_succ_cons, List.cons_append, List.nil_append, Prod.mk.injEq, true_and, and_true]
      omega

theorem putG_run (b : List Int) : ∀ (k : Nat) (d : Dc) (n : Int) (out : List Int) (r : Dc × Int × List Int), DInv d → 0 ≤ n → n ≤ b.length → putG b k d n out = some r →
    r = ((runB (b.drop n.toNat) d).1, n + (runB (b.drop n.toNat) d).2.1, out ++ (runB (b.drop n.toNat) d).2.2)
  | 0, d, n, out, r, hi, h0, h1, h => by simp [putG] at h
  | k + 1, d, n, out, r, hi, h0, h1, h => by
    have hstill : runB (b.drop n.toNat) d = (d, 0, []) → r = (d, n, out) → r = ((runB (b.drop n.toNat) d).1, n + (runB (b.drop n.toNat) d).2.1, out ++ (runB (b.drop n.toNat) d).2.2) := by
      intro e1 e2
      rw [e1, e2]
      simp
    simp only [putG] at h
    by_cases hn : n < (b.length : Int)
    · rw [if_pos hn] at h
      have hd : b.drop n.toNat = rd b n :: b.drop (n.toNat + 1) := by
        rw [List.drop_eq_getElem_cons (by omega)]
        unfold rd
        rw [List.getD_eq_getElem?_getD, List.getElem?_eq_getElem (by omega)]
        rfl
      by_cases he : d.e = 0
      · rw [if_pos he] at h
        by_cases h11 : d.place ≠ 11
        · rw [if_pos h11] at h
          by_cases h3 : d.place = 3
          · rw [if_pos h3] at h
            have n1 := hi.n3 h3
            obtain ⟨m, hm⟩ : ∃ m : Nat, min d.n ((b.length : Int) - n) = m := ⟨(min d.n ((b.length : Int) - n)).toNat, by omega⟩
            rw [hm] at h
            have hx := putG_run b k _ (n + m) _ r (dData_inv hi h3 m (by omega) (by omega)) (by omega) (by omega) h
            have e1 : (n + (m : Int)).toNat = n.toNat + m := by omega
            rw [e1] at hx
            rw [runB_data (b.drop n.toNat) d m he h3 (by omega) (by rw [List.length_drop]; omega) (by omega)]
            rw [hx, List.drop_drop]
            have e2 : (b.take (n.toNat + m)).drop n.toNat = (b.drop n.toNat).take m := by rw [List.drop_take]; congr 1; omega
            rw [e2]
            simp only [List.append_assoc, Prod.mk.injEq, true_and, and_true]
            omega
          · rw [if_neg h3] at h
            by_cases hr0 : (dStep d (rd b n)).2 = 0
            · rw [if_pos hr0] at h
              have hb : bput d (rd b n) = ({ (dStep d (rd b n)).1 with e := 0 }, 1, []) := by
                unfold bput
                rw [if_pos he, if_pos h11, if_neg h3, if_pos hr0]
              have hx := putG_run b k _ (n + 1) out r ((dStep_inv hi h3 h11 _).e 0) (by omega) (by omega) h
              have e1 : (n + 1).toNat = n.toNat + 1 := by omega
              rw [e1] at hx
              rw [hd]
              simp only [runB, hb]
              rw [hx]
              simp only [List.nil_append, Prod.mk.injEq, true_and, and_true]
              omega
            · rw [if_neg hr0] at h
              have hb : bput d (rd b n) = ({ (dStep d (rd b n)).1 with e := (dStep d (rd b n)).2 }, 0, []) := by
                unfold bput
                rw [if_pos he, if_pos h11, if_neg h3, if_neg hr0]
              cases k with
              | zero => simp [putG] at h
              | succ k1 =>
                rw [putG_still b k1 _ n out (.inl hr0)] at h
                have hr := (Option.some.inj h).symm
                rw [hd]
                simp only [runB, hb]
                rw [runB_still _ _ (.inl hr0), hr]
                simp
        · rw [if_neg h11] at h
          exact hstill (runB_still _ _ (.inr (by simpa using h11))) (Option.some.inj h).symm
      · rw [if_neg he] at h
        exact hstill (runB_still _ _ (.inl he)) (Option.some.inj h).symm
    · rw [if_neg hn] at h
      have hd : b.drop n.toNat = [] := List.drop_eq_nil_of_le (by omega)
      exact hstill (by rw [hd]; rfl) (Option.some.inj h).symm

theorem bput_tgo (d : Dc) (c : Int) (t g : Int) : bput (d.tg t g) c = ((bput d c).1.tg t g, (bput d c).2) := by
  have h := dStep_tgo d c t g
  unfold bput
  rw [h]
  by_cases he : d.e = 0
  · rw [if_pos he, if_pos (show (d.tg t g).e = 0 from he)]
    by_cases h11 : d.place ≠ 11
    · rw [if_pos h11, if_pos (show (d.tg t g).place ≠ 11 from h11)]
      by_cases h3 : d.place = 3
      · rw [if_pos h3, if_pos (show (d.tg t g).place = 3 from h3)]; rfl
      · rw [if_neg h3, if_neg (show ¬ (d.tg t g).place = 3 from h3)]
        by_cases hr : (dStep d c).2 = 0
        · rw [if_pos hr, if_pos hr]; rfl
        · rw [if_neg hr, if_neg hr]; rfl
    · rw [if_neg h11, if_neg (show ¬ (d.tg t g).place ≠ 11 from h11)]
  · rw [if_neg he, if_neg (show ¬ (d.tg t g).e = 0 from he)]
theorem runB_snoc : ∀ (l : List Int) (c : Int) (d : Dc), runB (l ++ [c]) d = ((bput (runB l d).1 c).1, (runB l d).2.1 + (bput (runB l d).1 c).2.1, (runB l d).2.2 ++ (bput (runB l d).1 c).2.2)
  | [], c, d => by simp [runB]
  | x :: xs, c, d => by
    simp only [List.cons_append, runB, runB_snoc xs c, List.append_assoc, Prod.mk.injEq, true_and, and_true]
    omega
theorem bput_put {d : Dc} (h : DInv d) (c : Int) : putG [c] 3 d 0 [] = some (bput d c) ∧ PutEnd [c] d 0 [] (bput d c) := by
  obtain ⟨r, e, he⟩ := putG_ends [c] 3 d 0 [] h (Int.le_refl 0) (by simp) (.inl (by simp))
  have hr := putG_run [c] 3 d 0 [] r h (Int.le_refl 0) (by simp) e
  have e2 : r = bput d c := by
    rw [hr]
    simp [runB]
  subst e2
  exact ⟨e, he⟩
theorem putG_all {b : List Int} {d : Dc} (h : DInv d) : putG b (b.length + 2) d 0 [] = some (runB b d) ∧ PutEnd b d 0 [] (runB b d) := by
  obtain ⟨r, e, he⟩ := putG_ends b (b.length + 2) d 0 [] h (Int.le_refl 0) (by omega) (.inl (by omega))
  have hr := putG_run b _ d 0 [] r h (Int.le_refl 0) (by omega) e
  have e2 : r = runB b d := by
    rw [hr]
    simp
  subst e2
  exact ⟨e, he⟩
end Go.Proofs.YtebjfgkgfgbndaaDoor

namespace Go.Proofs.YtebjfgkgfgbndaaDoor
open Go.RowKit Go.Proofs.YtebjfgkgfgbndaaDoorW.PrintWords Go.Proofs.YtebjfgkgfgbndaaDoorW.PrintLast Go.Proofs.YtebjfgkgfgbndaaDoorW.PrintMore
open PBodyScans
set_option linter.unusedVariables false
set_option linter.unusedSimpArgs false

theorem up_of {α : Type} {f : Nat → Option α} (hm : ∀ k, LeO (f k) (f (k + 1))) {k : Nat} {r : α} (h : f k = some r) : ∀ j, f (k + j) = some r
  | 0 => h
  | j + 1 => hm _ _ (up_of hm h j)
theorem up_le {α : Type} {f : Nat → Option α} (hm : ∀ k, LeO (f k) (f (k + 1))) {k k' : Nat} {r : α} (h : f k = some r) (hk : k ≤ k') : f k' = some r := by
  have := up_of hm h (k' - k)
  rwa [show k + (k' - k) = k' by omega] at this

theorem of_all {p : Int → Bool} (h : (List.range 256).all (fun n => p (n : Int)) = true) (c : Int) (h0 : 0 ≤ c) (h1 : c ≤ 255) : p c = true := by
  have := List.all_eq_true.1 h c.toNat (List.mem_range.2 (by omega))
  rwa [show ((c.toNat : Nat) : Int) = c by omega] at this
theorem token_all : (List.range 256).all (fun n => decide (catchpitref02_token.f 1 (n : Int) = some (tokenB (n : Int)))) = true := by kernel_rfl
theorem token_f (c : Int) (h0 : 0 ≤ c) (h1 : c ≤ 255) (k : Nat) (hk : 1 ≤ k) : catchpitref02_token.f k c = some (tokenB c) :=
  up_le (fun k => catchpitref02_token.mono c k) (of_decide_eq_true (of_all (p := fun c => decide (catchpitref02_token.f 1 c = some (tokenB c))) token_all c h0 h1)) hk
theorem byte_all : (List.range 256).all (fun n => decide (catchpitref02_Byte.f (n : Int) = some (textB (n : Int)))) = true := by kernel_rfl
theorem byte_f (c : Int) (h0 : 0 ≤ c) (h1 : c ≤ 255) : catchpitref02_Byte.f c = some (textB c) :=
  of_decide_eq_true (of_all (p := fun c => decide (catchpitref02_Byte.f c = some (textB c))) byte_all c h0 h1)
theorem digit_all : (List.range 256).all (fun n => decide (catchpitref01_Digit.f 17 (n : Int) = some (digV (n : Int)))) = true := by kernel_rfl
theorem digit_f (c : Int) (h0 : 0 ≤ c) (h1 : c ≤ 255) : catchpitref01_Digit.f 17 c = some (digV c) :=
  of_decide_eq_true (of_all (p := fun c => decide (catchpitref01_Digit.f 17 c = some (digV c))) digit_all c h0 h1)

theorem bytesOf_drop (s : ByteArray) (i : Nat) (h : i < s.size) : (bytesOf s).drop i = bt s (i : Int) :: (bytesOf s).drop (i + 1) := by
  have hl : i < (bytesOf s).length := by rw [bytesOf_length]; exact h
  rw [List.drop_eq_getElem_cons hl, ← rd_bytesOf]
  unfold rd
  rw [Int.toNat_natCast, List.getD_eq_getElem?_getD, List.getElem?_eq_getElem hl]
  rfl
theorem Token_l0 (s : ByteArray) (hs : s.size ≤ 1000000) : ∀ (k i : Nat), i ≤ s.size → s.size - i + 2 ≤ k → catchpitref02_Token.l0 k s (i : Int) = some (decide ((s.size : Int) > 0) && ((bytesOf s).drop i).all tokenB)
  | 0, i, h, hk => by omega
  | k + 1, i, h, hk => by
    unfold catchpitref02_Token.l0
    by_cases hi : i < s.size
    · have hr := bt_range s (i : Int)
      rw [if_pos (by omega), if_pos (by omega), token_f _ hr.1 hr.2 k (by omega), bytesOf_drop s i hi]
      simp only [Option.bind_some, List.all_cons]
      cases ht : tokenB (bt s (i : Int)) with
      | true =>
        rw [if_pos rfl, wrap_ok _ (by omega) (by omega)]
        have := Token_l0 s hs k (i + 1) (by omega) (by omega)
        rw [show ((i + 1 : Nat) : Int) = (i : Int) + 1 by omega] at this
        rw [this, Bool.true_and]
      | false => simp
    · rw [if_neg (by omega), show i = s.size by omega]
      rw [List.drop_of_length_le (by rw [bytesOf_length]; exact Nat.le_refl _)]
      simp
theorem Token_f (s : ByteArray) (hs : s.size ≤ 1000000) (k : Nat) (hk : s.size + 2 ≤ k) : catchpitref02_Token.f k s = some (tokenS s) := by
  have h := Token_l0 s hs k 0 (Nat.zero_le _) (by omega)
  unfold catchpitref02_Token.f
  rw [show ((0 : Nat) : Int) = 0 from rfl] at h
  rw [h]
  congr 1
  unfold tokenS
  rw [List.drop_zero]
  congr 1
  by_cases h0 : s.size = 0
  · simp [h0]
  · have e : (s.size != 0) = true := bne_iff_ne.mpr h0
    rw [e, decide_eq_true_eq]
    omega
theorem Text_l0 (s : ByteArray) (hs : s.size ≤ 1000000) : ∀ (k i : Nat), i ≤ s.size → s.size - i + 1 ≤ k → catchpitref02_Text.l0 k s (i : Int) = some (((bytesOf s).drop i).all textB)
  | 0, i, h, hk => by omega
  | k + 1, i, h, hk => by
    unfold catchpitref02_Text.l0
    by_cases hi : i < s.size
    · have hr := bt_range s (i : Int)
      rw [if_pos (by omega), if_pos (by omega), byte_f _ hr.1 hr.2, bytesOf_drop s i hi]
      simp only [Option.bind_some, List.all_cons]
      cases ht : textB (bt s (i : Int)) with
      | true =>
        rw [if_pos rfl, wrap_ok _ (by omega) (by omega)]
        have := Text_l0 s hs k (i + 1) (by omega) (by omega)
        rw [show ((i + 1 : Nat) : Int) = (i : Int) + 1 by omega] at this
        rw [this, Bool.true_and]
      | false => simp
    · rw [if_neg (by omega), show i = s.size by omega]
      rw [List.drop_of_length_le (by rw [bytesOf_length]; exact Nat.le_refl _)]
      simp
theorem Text_f (s : ByteArray) (hs : s.size ≤ 1000000) (k : Nat) (hk : s.size + 1 ≤ k) : catchpitref02_Text.f k s = some (textS s) := by
  have h := Text_l0 s hs k 0 (Nat.zero_le _) (by omega)
  unfold catchpitref02_Text.f
  rw [show ((0 : Nat) : Int) = 0 from rfl] at h
  rw [h, List.drop_zero]
  rfl

/-! Trim -/
def rdw (p : UInt8 → Bool) (l : List UInt8) : List UInt8 := (l.reverse.dropWhile p).reverse
theorem rdw_cons (p : UInt8 → Bool) (b : UInt8) (l : List UInt8) : rdw p (b :: l) = if (rdw p l).isEmpty then (if p b then [] else [b]) else b :: rdw p l := by
  unfold rdw
  rw [List.reverse_cons, List.dropWhile_append]
  by_cases h : (List.dropWhile p l.reverse).isEmpty = true
  · rw [if_pos h, if_pos (by simpa using h)]
    by_cases hb : p b = true <;> simp [List.dropWhile_cons, hb]
  · rw [if_neg h, if_neg (by simpa using h)]
    simp
theorem rdw_snoc (p : UInt8 → Bool) (b : UInt8) (l : List UInt8) : rdw p (l ++ [b]) = if p b then rdw p l else l ++ [b] := by
  unfold rdw
  rw [List.reverse_append, List.reverse_cons, List.reverse_nil, List.nil_append, List.singleton_append, List.dropWhile_cons]
  by_cases hb : p b = true
  · simp [hb]
  · simp [hb]
theorem rdw_comm (p : UInt8 → Bool) : ∀ l : List UInt8, List.dropWhile p (rdw p l) = rdw p (List.dropWhile p l)
  | [] => rfl
  | b :: l => by
    have ih := rdw_comm p l
    rw [rdw_cons]
    by_cases hb : p b = true
    · rw [List.dropWhile_cons_of_pos hb, ← ih]
      by_cases he : (rdw p l).isEmpty = true
      · rw [if_pos he, if_pos hb, List.isEmpty_iff.1 he]
      · rw [if_neg he, List.dropWhile_cons_of_pos hb]
    · rw [List.dropWhile_cons_of_neg hb, rdw_cons]
      by_cases he : (rdw p l).isEmpty = true
      · rw [if_pos he, if_neg hb, List.dropWhile_cons_of_neg hb]
      · rw [if_neg he, List.dropWhile_cons_of_neg hb]
theorem dw_idem (p : UInt8 → Bool) : ∀ l : List UInt8, List.dropWhile p (List.dropWhile p l) = List.dropWhile p l
  | [] => rfl
  | b :: l => by
    by_cases hb : p b = true
    · rw [List.dropWhile_cons_of_pos hb]; exact dw_idem p l
    · rw [List.dropWhile_cons_of_neg hb, List.dropWhile_cons_of_neg hb]
theorem rdw_idem (p : UInt8 → Bool) (l : List UInt8) : rdw p (rdw p l) = rdw p l := by
  unfold rdw
  rw [List.reverse_reverse, dw_idem]
theorem all_dw (p q : UInt8 → Bool) (h : ∀ b, p b = true → q b = true) : ∀ l : List UInt8, (List.dropWhile p l).all q = l.all q
  | [] => rfl
  | b :: l => by
    by_cases hb : p b = true
    · rw [List.dropWhile_cons_of_pos hb, all_dw p q h l, List.all_cons, h b hb, Bool.true_and]
    · rw [List.dropWhile_cons_of_neg hb]
theorem all_rdw (p q : UInt8 → Bool) (h : ∀ b, p b = true → q b = true) (l : List UInt8) : (rdw p l).all q = l.all q := by
  unfold rdw
  rw [List.all_reverse, all_dw p q h, List.all_reverse]

def blk (b : UInt8) : Bool := ([32, 9] : List UInt8).contains b
theorem trimS_data (s : ByteArray) : (trimS s).data.toList = List.dropWhile blk (rdw blk s.data.toList) := rfl
theorem strL_data (s : ByteArray) : strL s.data.toList = s := rfl
theorem data_strL (l : List UInt8) : (strL l).data.toList = l := rfl
theorem trimS_idem (s : ByteArray) : trimS (trimS s) = trimS s := by
  have h : (trimS (trimS s)).data.toList = (trimS s).data.toList := by
    have e1 := rdw_comm blk (rdw blk s.data.toList)
    rw [rdw_idem] at e1
    rw [trimS_data (trimS s), trimS_data s, ← e1, dw_idem]
  have e := congrArg strL h
  rwa [strL_data, strL_data] at e
theorem textS_trim (s : ByteArray) : textS (trimS s) = textS s := by
  have e : ∀ l : List UInt8, (l.map fun b => (b.toNat : Int)).all textB = l.all (fun b => textB (b.toNat : Int)) := fun l => by rw [List.all_map]; rfl
  have hq : ∀ b, blk b = true → textB (b.toNat : Int) = true := by
    intro b hb
    have hb' : b = 32 ∨ b = 9 := by simpa [blk] using hb
    rcases hb' with rfl | rfl <;> rfl
  unfold textS bytesOf
  rw [e, e, trimS_data, all_dw blk _ hq, all_rdw blk _ hq]
theorem valueS_trim (s : ByteArray) : valueS (trimS s) = textS s := by
  unfold valueS
  rw [trimS_idem, textS_trim]
  simp

theorem extract_data (s : ByteArray) (a b : Nat) : (s.extract a b).data.toList = (s.data.toList.drop a).take (b - a) := by
  rw [ByteArray.data_extract, Array.toList_extract]
theorem bt_data (s : ByteArray) (i : Nat) (h : i < s.data.toList.length) : bt s (i : Int) = ((s.data.toList[i]'h).toNat : Int) := by
  rw [← rd_bytesOf]
  unfold rd bytesOf
  rw [Int.toNat_natCast, List.getD_eq_getElem?_getD, List.getElem?_map, List.getElem?_eq_getElem h]
  rfl
theorem blank_f (b : UInt8) : catchpitref02_blank.f (b.toNat : Int) = some (blk b) := by
  have h := of_decide_eq_true (of_all (p := fun c => decide (catchpitref02_blank.f c = some (blk (UInt8.ofNat c.toNat)))) (by kernel_rfl) (b.toNat : Int) (by omega) (by have := b.toNat_lt; omega))
  rw [h, Int.toNat_natCast, UInt8.ofNat_toNat]
theorem Trim_l1 : ∀ (k : Nat) (s : ByteArray), s.size ≤ 1000000 → s.size + 1 ≤ k → catchpitref02_Trim.l1 k s = some (strL (rdw blk s.data.toList))
  | 0, s, hs, hk => by omega
  | k + 1, s, hs, hk => by
    unfold catchpitref02_Trim.l1
    have hlen := data_length s
    rcases List.eq_nil_or_concat s.data.toList with h | ⟨l, b, h⟩
    · have h0 : s.size = 0 := by rw [← hlen, h]; rfl
      rw [if_neg (by omega), h]
      have : s = strL [] := by rw [← h, strL_data]
      rw [this]
      rfl
    · rw [List.concat_eq_append] at h
      have hl : l.length + 1 = s.size := by rw [← hlen, h]; simp
      have hw : wrap64 ((s.size : Int) - 1) = (l.length : Int) := by rw [wrap_ok _ (by omega) (by omega)]; omega
      rw [if_pos (by omega), hw, if_pos (by omega), if_pos (by omega), bt_data s l.length (by rw [hlen]; omega)]
      have hb : s.data.toList[l.length]'(by rw [hlen]; omega) = b := by simp [h]
      rw [hb, blank_f, Option.bind_some, h, rdw_snoc]
      have hx : s.extract 0 l.length = strL l := by
        have e : (s.extract 0 l.length).data.toList = l := (extract_data s 0 l.length).trans (by rw [h]; simp)
        exact (strL_data (s.extract 0 l.length)).symm.trans (congrArg strL e)
      cases hbk : blk b with
      | true =>
        rw [if_pos rfl, if_pos (by omega), if_pos rfl, Int.toNat_natCast, hx]
        have := Trim_l1 k (strL l) (by rw [strL_size]; omega) (by rw [strL_size]; omega)
        rw [this, data_strL]
      | false =>
        rw [if_neg (by simp), if_neg (by simp), ← h, strL_data]
theorem Trim_l0 : ∀ (k : Nat) (s : ByteArray), s.size ≤ 1000000 → s.size + 3 ≤ k → catchpitref02_Trim.l0 k s = some (strL (rdw blk (List.dropWhile blk s.data.toList)))
  | 0, s, hs, hk => by omega
  | k + 1, s, hs, hk => by
    unfold catchpitref02_Trim.l0
    have hlen := data_length s
    have hj : ∀ s' : ByteArray, s'.size ≤ 1000000 → s'.size + 2 ≤ k → catchpitref02_Trim.j1 k s' = some (strL (rdw blk s'.data.toList)) := by
      intro s' h1 h2
      obtain ⟨k', rfl⟩ : ∃ k', k = k' + 1 := ⟨k - 1, by omega⟩
      unfold catchpitref02_Trim.j1
      exact Trim_l1 k' s' h1 (by omega)
    cases h : s.data.toList with
    | nil =>
      have h0 : s.size = 0 := by rw [← hlen, h]; rfl
      rw [if_neg (by omega), hj s hs (by omega), h]
      rfl
    | cons b l =>
      have hl : l.length + 1 = s.size := by rw [← hlen, h]; simp
      rw [if_pos (by omega), if_pos (by omega), show (0 : Int) = ((0 : Nat) : Int) from rfl, bt_data s 0 (by rw [hlen]; omega)]
      have hb : s.data.toList[0]'(by rw [hlen]; omega) = b := by simp [h]
      rw [hb, blank_f, Option.bind_some]
      have hx : s.extract 1 s.size = strL l := by
        have e : (s.extract 1 s.size).data.toList = l := (extract_data s 1 s.size).trans (by rw [h, List.drop_succ_cons, List.drop_zero]; exact List.take_of_length_le (by omega))
        exact (strL_data (s.extract 1 s.size)).symm.trans (congrArg strL e)
      cases hbk : blk b with
      | true =>
        rw [if_pos rfl, if_pos (by omega), hx, List.dropWhile_cons_of_pos hbk]
        have := Trim_l0 k (strL l) (by rw [strL_size]; omega) (by rw [strL_size]; omega)
        rw [this, data_strL]
      | false =>
        rw [if_neg (by simp), hj s hs (by omega), h, List.dropWhile_cons_of_neg (by simp [hbk])]
theorem Trim_f (s : ByteArray) (hs : s.size ≤ 1000000) (k : Nat) (hk : s.size + 3 ≤ k) : catchpitref02_Trim.f k s = some (trimS s) := by
  unfold catchpitref02_Trim.f
  rw [Trim_l0 k s hs hk, ← rdw_comm, ← trimS_data, strL_data]

/-! Parse -/
theorem indexByte_mid (c : UInt8) : ∀ (A R : List UInt8), c ∉ A → Lib.indexByte (A ++ c :: R) c = (A.length : Int)
  | [], R, _ => by simp [Lib.indexByte]
  | b :: A, R, h => by
    have h1 : b ≠ c := fun e => h (by simp [e])
    have h2 : c ∉ A := fun e => h (by simp [e])
    simp only [List.cons_append, Lib.indexByte, indexByte_mid c A R h2]
    rw [if_neg (by simpa using h1), if_neg (by simp)]
    simp
theorem indexByte_no (c : UInt8) : ∀ (A : List UInt8), c ∉ A → Lib.indexByte A c = -1
  | [], _ => rfl
  | b :: A, h => by
    have h1 : b ≠ c := fun e => h (by simp [e])
    have h2 : c ∉ A := fun e => h (by simp [e])
    simp only [Lib.indexByte, indexByte_no c A h2]
    rw [if_neg (by simpa using h1)]
    rfl
theorem cut_mid (A R : List UInt8) (h : (58 : UInt8) ∉ A) : Lib.cut (A ++ 58 :: R) [58] = (A, R, true) := by
  unfold Lib.cut
  rw [Lib.index_one, indexByte_mid 58 A R h, if_pos (by omega), Int.toNat_natCast]
  simp
theorem cut_no (A : List UInt8) (h : (58 : UInt8) ∉ A) : Lib.cut A [58] = (A, [], false) := by
  unfold Lib.cut
  rw [Lib.index_one, indexByte_no 58 A h, if_neg (by omega)]
theorem Parse_l0 (s : ByteArray) (hs : s.size ≤ 1000000) (n : Nat) (hn : n ≤ s.size) (hno : ∀ i (h : i < s.data.toList.length), i < n → s.data.toList[i]'h ≠ 58) (hat : ∀ h : n < s.data.toList.length, s.data.toList[n]'h = 58) (m : Nat) :
    ∀ (k i : Nat), i ≤ n → n - i + 1 + m ≤ k → ∃ k', m ≤ k' ∧ catchpitref05_Parse.l0 k s (i : Int) = catchpitref05_Parse.j1 k' s (n : Int)
  | 0, i, h, hk => by omega
  | k + 1, i, h, hk => by
    unfold catchpitref05_Parse.l0
    have hlen := data_length s
    by_cases hi : i < n
    · have hb := hno i (by omega) hi
      have hb2 : ¬ bt s (i : Int) = 58 := by
        rw [bt_data s i (by omega)]
        intro e
        apply hb
        apply UInt8.toNat.inj
        have : (s.data.toList[i]'(by omega)).toNat = 58 := by omega
        rw [this]; rfl
      rw [if_pos (by omega), if_pos (by omega), if_neg hb2, wrap_ok _ (by omega) (by omega)]
      have := Parse_l0 s hs n hn hno hat m k (i + 1) (by omega) (by omega)
      rwa [show ((i + 1 : Nat) : Int) = (i : Int) + 1 by omega] at this
    · obtain rfl : i = n := by omega
      by_cases hz : i < s.size
      · have hb2 : bt s (i : Int) = 58 := by rw [bt_data s i (by omega), hat (by omega)]; rfl
        rw [if_pos (by omega), if_pos (by omega), if_pos hb2]
        exact ⟨k, by omega, rfl⟩
      · rw [if_neg (by omega)]
        exact ⟨k, by omega, rfl⟩
theorem take_eq (s : ByteArray) (n : Nat) : s.extract 0 n = strL (s.data.toList.take n) := by
  rw [← strL_data (s.extract 0 n), extract_data]
  simp
theorem drop_eq (s : ByteArray) (n : Nat) : s.extract n s.size = strL (s.data.toList.drop n) := by
  rw [← strL_data (s.extract n s.size), extract_data]
  rw [List.take_of_length_le (by rw [List.length_drop, data_length]; exact Nat.le_refl _)]
theorem Parse_f (s : ByteArray) (hs : s.size ≤ 1000000) (k : Nat) (hk : 2 * s.size + 10 ≤ k) : catchpitref05_Parse.f k s = some ((fieldOf s).f0, (fieldOf s).f1, parseOk s) := by
  unfold catchpitref05_Parse.f
  have hlen := data_length s
  by_cases hm : (58 : UInt8) ∈ s.data.toList
  · obtain ⟨A, R, hA, hnA⟩ := List.eq_append_cons_of_mem hm
    have hAl : A.length < s.size := by rw [← hlen, hA]; simp
    obtain ⟨k', hk', e⟩ := Parse_l0 s hs A.length (by omega) (fun i h hi e => by
        apply hnA
        have : s.data.toList[i]'h = A[i]'hi := by simp only [hA, List.getElem_append_left hi]
        rw [← e, this]
        exact List.getElem_mem _) (fun h => by simp only [hA, List.getElem_append_right (Nat.le_refl _), Nat.sub_self, List.getElem_cons_zero]) (s.size + 9) k 0 (Nat.zero_le _) (by omega)
    rw [show (0 : Int) = ((0 : Nat) : Int) from rfl, e]
    obtain ⟨k1, rfl⟩ : ∃ k1, k' = k1 + 1 := ⟨k' - 1, by omega⟩
    simp only [catchpitref05_Parse.j1]
    have hcut : Lib.cut s.data.toList [58] = (A, R, true) := by rw [hA]; exact cut_mid A R hnA
    have ht : s.extract 0 A.length = strL A := by rw [take_eq, hA]; simp
    have hd : s.extract (A.length + 1) s.size = strL R := by rw [drop_eq, hA]; simp
    have hRl : R.length + A.length + 1 = s.size := by rw [← hlen, hA]; simp; omega
    rw [if_neg (by omega), if_pos (by omega), if_pos (by omega), Int.toNat_natCast, ht, Token_f _ (by rw [strL_size]; omega) k1 (by rw [strL_size]; omega), Option.bind_some]
    have hcn : cutN s = strL A := by unfold cutN; rw [hcut]
    have hcv : cutV s = trimS (strL R) := by unfold cutV; rw [hcut]
    have hok : parseOk s = (tokenS (strL A) && textS (strL R)) := by
      unfold parseOk cutOk rightS
      rw [hcut, hcn, hcv, valueS_trim]
      rfl
    cases h1 : tokenS (strL A) with
    | false =>
      have hp : parseOk s = false := by rw [hok, h1]; rfl
      unfold fieldOf
      rw [hp]
      simp
    | true =>
      rw [if_pos rfl, wrap_ok _ (by omega) (by omega), if_pos (by omega), if_pos (by omega), show ((A.length : Int) + 1).toNat = A.length + 1 by omega, hd, Text_f _ (by rw [strL_size]; omega) k1 (by rw [strL_size]; omega), Option.bind_some]
      cases h2 : textS (strL R) with
      | false =>
        have hp : parseOk s = false := by rw [hok, h1, h2]; rfl
        unfold fieldOf
        rw [hp]
        simp
      | true =>
        have hp : parseOk s = true := by rw [hok, h1, h2]; rfl
        rw [if_pos rfl, Trim_f _ (by rw [strL_size]; omega) k1 (by rw [strL_size]; omega), Option.bind_some]
        unfold fieldOf
        rw [hp, if_pos rfl, hcn, hcv]
  · obtain ⟨k', hk', e⟩ := Parse_l0 s hs s.size (Nat.le_refl _) (fun i h hi e => hm (by rw [← e]; exact List.getElem_mem _)) (fun h => absurd h (by omega)) (s.size + 9) k 0 (Nat.zero_le _) (by omega)
    rw [show (0 : Int) = ((0 : Nat) : Int) from rfl, e]
    obtain ⟨k1, rfl⟩ : ∃ k1, k' = k1 + 1 := ⟨k' - 1, by omega⟩
    simp only [catchpitref05_Parse.j1]
    have hcut := cut_no s.data.toList hm
    have hp : parseOk s = false := by unfold parseOk cutOk; rw [hcut]; rfl
    unfold fieldOf
    rw [if_pos trivial, hp]
    simp
end Go.Proofs.YtebjfgkgfgbndaaDoor

namespace Go.Proofs.YtebjfgkgfgbndaaDoor
open Go.RowKit Go.Proofs.YtebjfgkgfgbndaaDoorW.PrintWords Go.Proofs.YtebjfgkgfgbndaaDoorW.PrintLast Go.Proofs.YtebjfgkgfgbndaaDoorW.PrintMore
open PBodyScans
set_option linter.unusedVariables false
set_option linter.unusedSimpArgs false

theorem runB_append : ∀ (a b : List Int) (d : Dc), runB (a ++ b) d = ((runB b (runB a d).1).1, (runB a d).2.1 + (runB b (runB a d).1).2.1, (runB a d).2.2 ++ (runB b (runB a d).1).2.2)
  | [], b, d => by simp [runB]
  | c :: cs, b, d => by
    simp only [List.cons_append, runB, runB_append cs b, List.append_assoc, Prod.mk.injEq, true_and, and_true]
    omega

/-- What an error leaves as it was. -/
def KE (d : Dc) (r : Dc × Int) : Prop := r.2 ≠ 0 → r.1.place = d.place ∧ r.1.n = d.n ∧ r.1.fields = d.fields
theorem ke_ite {d : Dc} {p : Prop} [Decidable p] {a b : Dc × Int} (ha : KE d a) (hb : KE d b) : KE d (if p then a else b) := by split <;> assumption
theorem ke_same (d : Dc) (x : Int) : KE d (d, x) := fun _ => ⟨rfl, rfl, rfl⟩
theorem ke_ok (d d' : Dc) : KE d (d', 0) := fun h => absurd rfl h
theorem dTo_ke (d : Dc) (p : Int) (ok : Bool) : KE d (dTo d p ok) := ke_ite (ke_ok _ _) (ke_same _ _)
theorem dMore_ke (d : Dc) (c p : Int) : KE d (dMore d c p) := ke_ite (ke_same _ _) (ke_ok _ _)
theorem dExt_ke (d : Dc) (c : Int) : KE d (dExt d c) := ke_ite (ke_ok _ _) (ke_ite (ke_same _ _) (ke_ite (ke_same _ _) (ke_ok _ _)))
theorem dDigit_ke (d : Dc) (c : Int) (hp : d.place = 0) : KE d (dDigit d c) := by
  have h := dExt_ke { d with count := 0, place := 1 } c
  exact ke_ite (ke_ite (ke_same _ _) (ke_ok _ _)) (ke_ite (ke_same _ _) (ke_ite (ke_ite (fun e => ⟨hp.symm, (h e).2.1, (h e).2.2⟩) (ke_ok _ _)) (dTo_ke _ _ _)))
theorem dStep_ke (d : Dc) (c : Int) : KE d (dStep d c) := by
  unfold dStep
  by_cases e0 : d.place = 0
  · rw [if_pos e0]; exact dDigit_ke d c e0
  rw [if_neg e0]
  refine ke_ite (dExt_ke _ _) (ke_ite (ke_ite (dTo_ke _ _ _) (dTo_ke _ _ _)) (ke_ite (dTo_ke _ _ _) (ke_ite (fun e => ?_) (ke_ite (ke_ite (ke_ok _ _) (ke_ite (ke_same _ _) (ke_ite (ke_same _ _) (ke_ite (ke_ok _ _) (dMore_ke _ _ _))))) (ke_ite (ke_ite (dMore_ke _ _ _) (ke_ite (ke_same _ _) (dMore_ke _ _ _))) (ke_ite (ke_ite (dMore_ke _ _ _) (ke_ite (ke_same _ _) (dMore_ke _ _ _))) (ke_ite (ke_ite (ke_same _ _) (ke_ite (ke_same _ _) (ke_ok _ _))) (dTo_ke _ _ _))))))))
  exact dTo_ke { d with count := 0 } 0 (c == 10) e

theorem bput_err {d : Dc} {c : Int} (he : d.e = 0) (h : (bput d c).1.e ≠ 0) : (bput d c).2 = (0, []) ∧ (bput d c).1.place = d.place ∧ (bput d c).1.n = d.n ∧ (bput d c).1.fields = d.fields := by
  unfold bput at h ⊢
  rw [if_pos he] at h ⊢
  by_cases h11 : d.place ≠ 11
  · rw [if_pos h11] at h ⊢
    by_cases h3 : d.place = 3
    · rw [if_pos h3] at h
      exact absurd he h
    · rw [if_neg h3] at h ⊢
      by_cases hr : (dStep d c).2 = 0
      · rw [if_pos hr] at h
        exact absurd rfl h
      · rw [if_neg hr]
        exact ⟨rfl, dStep_ke d c hr⟩
  · rw [if_neg h11] at h
    exact absurd he h
theorem bput_one {d : Dc} {c : Int} (he : d.e = 0) (h11 : d.place ≠ 11) (h : (bput d c).1.e = 0) : (bput d c).2.1 = 1 := by
  unfold bput at h ⊢
  rw [if_pos he, if_pos h11] at h ⊢
  by_cases h3 : d.place = 3
  · rw [if_pos h3]
  · rw [if_neg h3] at h ⊢
    by_cases hr : (dStep d c).2 = 0
    · rw [if_pos hr]
    · rw [if_neg hr] at h
      exact absurd h hr
theorem list_at (b : List Int) (i : Nat) (hi : i < b.length) : b = b.take i ++ rd b (i : Int) :: b.drop (i + 1) := by
  have h : b.drop i = rd b (i : Int) :: b.drop (i + 1) := by
    rw [List.drop_eq_getElem_cons hi]
    unfold rd
    rw [Int.toNat_natCast, List.getD_eq_getElem?_getD, List.getElem?_eq_getElem hi]
    rfl
  rw [← h, List.take_append_drop]
theorem take_at (b : List Int) (i : Nat) (hi : i < b.length) : b.take (i + 1) = b.take i ++ [rd b (i : Int)] := by
  rw [List.take_add_one, List.getElem?_eq_getElem hi]
  unfold rd
  rw [Int.toNat_natCast, List.getD_eq_getElem?_getD, List.getElem?_eq_getElem hi]
  rfl
theorem runB_step {b : List Int} {d D : Dc} {i : Nat} {k : Int} {out : List Int} (hi : i < b.length) (h : runB (b.take i) d = (D, k, out)) :
    runB (b.take (i + 1)) d = ((bput D (rd b i)).1, k + (bput D (rd b i)).2.1, out ++ (bput D (rd b i)).2.2) := by
  rw [take_at b i hi, runB_snoc, h]
theorem runB_stop {b : List Int} {d D : Dc} {i : Nat} {k : Int} {out : List Int} (hi : i < b.length) (h : runB (b.take i) d = (D, k, out)) (hs : (bput D (rd b i)).1.e ≠ 0 ∨ (bput D (rd b i)).1.place = 11) :
    runB b d = ((bput D (rd b i)).1, k + (bput D (rd b i)).2.1, out ++ (bput D (rd b i)).2.2) := by
  have e := runB_append (b.take (i + 1)) (b.drop (i + 1)) d
  rw [List.take_append_drop, runB_step hi h] at e
  rw [e]
  dsimp only
  rw [runB_still _ _ hs]
  simp

/-- The error's number of a scan whose bytes end in a decoder d. -/
def endE (d : Dc) : Int := if d.e ≠ 0 then d.e else if d.place = 11 then 0 else 4
/-- What the reference's Scan hands back of bytes b: the state's parts, the place, the error's number. -/
structure ScanIs (b : List Int) (d : Dc) (dG : Dc) (data : List Int) (at_ E : Int) : Prop where
  data : data = (runB b d).2.2
  at_ : at_ = (runB b d).2.1
  err : E = endE (runB b d).1
  place : dG.place = (runB b d).1.place
  n : dG.n = (runB b d).1.n
  fields : dG.fields = (runB b d).1.fields
theorem scan_err {b : List Int} {d D : Dc} {i : Nat} {out : List Int} (hi : i < b.length) (h : runB (b.take i) d = (D, (i : Int), out)) (he : D.e = 0) (hs : (bput D (rd b i)).1.e ≠ 0) :
    ScanIs b d D out (i : Int) (bput D (rd b i)).1.e := by
  have hr := runB_stop hi h (.inl hs)
  obtain ⟨h1, h2, h3, h4⟩ := bput_err he hs
  rw [h1] at hr
  refine ⟨?_, ?_, ?_, ?_, ?_, ?_⟩ <;> rw [hr]
  · simp
  · simp
  · unfold endE; rw [if_pos hs]
  · exact h2.symm
  · exact h3.symm
  · exact h4.symm
theorem scan_done {b : List Int} {d D : Dc} {i : Nat} {out : List Int} (hi : i < b.length) (h : runB (b.take i) d = (D, (i : Int), out)) (he : D.e = 0) (h11 : D.place ≠ 11) (he2 : (bput D (rd b i)).1.e = 0) (hs : (bput D (rd b i)).1.place = 11) :
    ScanIs b d (bput D (rd b i)).1 (out ++ (bput D (rd b i)).2.2) ((i : Int) + 1) 0 := by
  have hr := runB_stop hi h (.inr hs)
  rw [bput_one he h11 he2] at hr
  refine ⟨?_, ?_, ?_, ?_, ?_, ?_⟩ <;> rw [hr]
  · unfold endE; rw [if_neg (by simpa using he2), if_pos hs]
theorem scan_more {b : List Int} {d D : Dc} {out : List Int} (h : runB b d = (D, (b.length : Int), out)) (he : D.e = 0) (h11 : D.place ≠ 11) : ScanIs b d D out (b.length : Int) 4 := by
  refine ⟨?_, ?_, ?_, ?_, ?_, ?_⟩ <;> rw [h]
  · unfold endE; rw [if_neg (by simpa using he), if_neg h11]

theorem strOfNums_append (a b : List Int) : strOfNums (a ++ b) = strOfNums a ++ strOfNums b := by
  have h : (strOfNums (a ++ b)).data.toList = (strOfNums a ++ strOfNums b).data.toList := by
    rw [ByteArray.data_append, Array.toList_append, strOfNums_data, strOfNums_data, strOfNums_data, List.map_append]
  have e := congrArg strL h
  rwa [strL_data, strL_data] at e
theorem strOfNums_take (a : List Int) (n : Nat) : (strOfNums a).extract 0 n = strOfNums (a.take n) := by
  rw [take_eq, ← strL_data (strOfNums (a.take n)), strOfNums_data, strOfNums_data, List.map_take]

/-- One byte more of a field's line, as the reference has it. -/
def rLine (d : Dc) (c : Int) : Dc × Int :=
  if d.size ≥ d.byts then (d, 5)
  else if c = 10 ∧ d.place = 9 then ({ d with size := d.size + 1, place := 6, fields := d.fields ++ [fieldOf (strOfNums (d.line.take (d.line.length - 1)))], line := [] }, 0)
  else ({ d with size := d.size + 1, line := d.line ++ [c] }, 0)
theorem rLine_f (d : Dc) (hi : DcOk d) (c : Int) (h9 : c = 10 → d.place = 9 → 1 ≤ d.line.length) (data : List Int) (x y : Int) :
    catchpitref08_line.f 200000 d.place d.n d.count d.lines d.size (strOfNums d.line) data d.fields c x y d.byts =
      some ((rLine d c).1.place, (rLine d c).1.n, (rLine d c).1.count, (rLine d c).1.lines, (rLine d c).1.size, strOfNums (rLine d c).1.line, data, (rLine d c).1.fields, (rLine d c).2) := by
  have hsz := strOfNums_size d.line
  have hs0 := hi.size0
  have hs1 := hi.size1
  have hlen := hi.len
  have hfl := hi.flen
  have hl1 := hi.lines1
  unfold catchpitref08_line.f rLine
  by_cases h1 : d.size ≥ d.byts
  · rw [if_pos h1, if_pos h1]
  · rw [if_neg h1, if_neg h1]
    have hput : ∀ p : Int, (if (strOfNums d.line).size + (strOfNums [c]).size ≤ 9223372036854775807 then (some (p, d.n, d.count, d.lines, wrap64 (d.size + 1), strOfNums d.line ++ (strOfNums [c]), data, d.fields, (0 : Int))) else none)
        = some (p, d.n, d.count, d.lines, d.size + 1, strOfNums (d.line ++ [c]), data, d.fields, 0) := by
      intro p
      rw [if_pos (by rw [strOfNums_size, strOfNums_size]; simp only [List.length_cons, List.length_nil]; omega), wrap_ok _ (by omega) (by omega), strOfNums_append]
    by_cases h2 : c = 10
    · rw [if_pos h2]
      by_cases h3 : d.place = 9
      · have hl := h9 h2 h3
        rw [if_pos h3, if_pos (show c = 10 ∧ d.place = 9 from ⟨h2, h3⟩), hsz, wrap_ok _ (by omega) (by omega), if_pos (by omega), if_pos (by omega)]
        have he : (strOfNums d.line).extract 0 ((d.line.length : Int) - 1).toNat = strOfNums (d.line.take (d.line.length - 1)) := by
          rw [strOfNums_take]
          congr 2
          omega
        rw [he, Parse_f _ (by rw [strOfNums_size, List.length_take]; omega) _ (by rw [strOfNums_size, List.length_take]; omega), Option.bind_some, if_pos (by simp only [List.length_nil]; omega), Option.bind_some, if_pos (by simp only [List.nil_append]; omega), wrap_ok _ (by omega) (by omega)]
        rfl
      · rw [if_neg h3, if_neg (show ¬ (c = 10 ∧ d.place = 9) from fun h => h3 h.2), Option.bind_some]
        exact hput _
    · rw [if_neg h2, if_neg (show ¬ (c = 10 ∧ d.place = 9) from fun h => h2 h.1), Option.bind_some]
      exact hput _
end Go.Proofs.YtebjfgkgfgbndaaDoor

namespace Go.Proofs.YtebjfgkgfgbndaaDoor
open Go.RowKit Go.Proofs.YtebjfgkgfgbndaaDoorW.PrintWords Go.Proofs.YtebjfgkgfgbndaaDoorW.PrintLast Go.Proofs.YtebjfgkgfgbndaaDoorW.PrintMore
open PBodyScans
set_option linter.unusedVariables false
set_option linter.unusedSimpArgs false

/-- The parts of the reference's state, as values. -/
def sCells (d : Dc) (vd vf : Value) : Array Value := #[.int .i64 d.place, .int .u64 d.n, .int .i64 d.count, .int .i64 d.lines, .int .i64 d.size, .string (strOfNums d.line), vd, vf]
def lCells (d : Dc) : Array Value := #[.int .i64 d.ext, .int .i64 d.flds, .int .i64 d.byts]
def zCells : Array Value := #[.int .i64 0, .int .u64 0, .int .i64 0, .int .i64 0, .int .i64 0, .string (⟨#[]⟩ : ByteArray), .slice none 0 0, .slice none 0 0]
/-- The rows of a reference's state. -/
structure SRows (w : World) (B : Nat) (S : Nat → Prop) (d : Dc) (data : List Int) (vd vf : Value) : Prop where
  data : Kd.R (Kd.int .u8) 5 w B S vd data
  fields : Kd.R k53 53 w B S vf d.fields
theorem SRows.mono {w : World} {B : Nat} {S S' : Nat → Prop} {d : Dc} {data : List Int} {vd vf : Value} (h : SRows w B S d data vd vf) (hs : ∀ k, S k → S' k) : SRows w B S' d data vd vf := ⟨Kd.R_mono h.1 hs, Kd.R_mono h.2 hs⟩
theorem SRows.below {w w' : World} {B : Nat} {S : Nat → Prop} {d : Dc} {data : List Int} {vd vf : Value} (h : SRows w B S d data vd vf) (hb : Below w.heap.size w w') : SRows w' B S d data vd vf := ⟨Kd.R_below h.1 hb, Kd.R_below h.2 hb⟩
theorem SRows.set {w : World} {B : Nat} {S : Nat → Prop} {d : Dc} {data : List Int} {vd vf : Value} (h : SRows w B S d data vd vf) {g : Nat} {cs : Array Value} (hg : w.heap[g]? = some (.cells cs 39 (0, 0))) (j : Nat) (u : Value) :
    SRows (w.setCell ⟨g, j, none⟩ u) B S d data vd vf :=
  ⟨Kd.R_set h.1 hg (by simp [Kd.int, Kd.scalar]) j u, Kd.R_set h.2 hg (by simp [k53, Kd.iso, Kd.pair, Kd.string, Kd.scalar]) j u⟩

/-- Midway in Step: g1 holds the state, g2 the limits, g3 what is handed back. -/
structure SMid (w0 w : World) (g1 g2 g3 : Nat) (W : World) (S : Nat → Prop) (d : Dc) (data : List Int) (vd vf : Value) : Prop where
  s : W.heap[g1]? = some (.cells (sCells d vd vf) 39 (0, 0))
  l : W.heap[g2]? = some (.cells (lCells d) 23 (0, 0))
  r : W.heap[g3]? = some (.cells zCells 39 (0, 0))
  rows : SRows W w0.heap.size (fun k => S k ∨ w.heap.size ≤ k) d data vd vf
  below : Below w0.heap.size w0 W
  kept : Kept w W S
  g1w : w.heap.size ≤ g1
  g3w : w.heap.size ≤ g3
  n12 : g1 ≠ g2
  n13 : g1 ≠ g3
  n23 : g2 ≠ g3
  w0w : w0.heap.size ≤ w.heap.size
section
variable {w0 w W W' : World} {g1 g2 g3 : Nat} {S : Nat → Prop} {d d' : Dc} {data : List Int} {vd vf : Value}
theorem SMid.start {w1 w2 w3 : World} (hB : Below w0.heap.size w0 w) (hr : SRows w w0.heap.size S d data vd vf) (e1 : g1 = w.heap.size) (h1 : w1.heap[g1]? = some (.cells (sCells d vd vf) 39 (0, 0))) (b1 : Below w.heap.size w w1)
    (e2 : g2 = w1.heap.size) (h2 : w2.heap[g2]? = some (.cells (lCells d) 23 (0, 0))) (b2 : Below w1.heap.size w1 w2) (e3 : g3 = w2.heap.size) (h3 : w3.heap[g3]? = some (.cells zCells 39 (0, 0))) (b3 : Below w2.heap.size w2 w3) :
    SMid w0 w g1 g2 g3 w3 S d data vd vf := by
  have l1 := blk_lt h1
  have l2 := blk_lt h2
  have z1 := b1.size
  have z2 := b2.size
  have z3 := b3.size
  have b12 : Below w.heap.size w w2 := below_then b1 b1.size b2
  have b13 : Below w.heap.size w w3 := below_then b12 b12.size b3
  exact ⟨blk_below (blk_below h1 b2) b3, blk_below h2 b3, h3, (hr.below b13).mono fun _ h => .inl h, below_step hB b13, kept_of_below S b13, by omega, by omega, by omega, by omega, by omega, hB.size⟩
theorem SMid.get (h : SMid w0 w g1 g2 g3 W S d data vd vf) (j : Nat) : W.cell? ⟨g1, j, none⟩ = (sCells d vd vf)[j]? := blk_cell h.s j
theorem SMid.frozen (h : SMid w0 w g1 g2 g3 W S d data vd vf) (j : Nat) : W.frozen? ⟨g1, j, none⟩ = false := blk_frozen h.s j
theorem SMid.frozen3 (h : SMid w0 w g1 g2 g3 W S d data vd vf) (j : Nat) : W.frozen? ⟨g3, j, none⟩ = false := blk_frozen h.r j
/-- The state's parts, for the walk. -/
theorem SMid.gets (h : SMid w0 w g1 g2 g3 W S d data vd vf) : W.cell? ⟨g1, 0, none⟩ = some (.int .i64 d.place) ∧ W.cell? ⟨g1, 1, none⟩ = some (.int .u64 d.n) ∧ W.cell? ⟨g1, 2, none⟩ = some (.int .i64 d.count) ∧ W.cell? ⟨g1, 3, none⟩ = some (.int .i64 d.lines) ∧
    W.cell? ⟨g1, 4, none⟩ = some (.int .i64 d.size) ∧ W.cell? ⟨g1, 5, none⟩ = some (.string (strOfNums d.line)) ∧ W.cell? ⟨g1, 6, none⟩ = some vd ∧ W.cell? ⟨g1, 7, none⟩ = some vf :=
  ⟨h.get 0, h.get 1, h.get 2, h.get 3, h.get 4, h.get 5, h.get 6, h.get 7⟩
theorem SMid.getl (h : SMid w0 w g1 g2 g3 W S d data vd vf) : W.cell? ⟨g2, 0, none⟩ = some (.int .i64 d.ext) ∧ W.cell? ⟨g2, 1, none⟩ = some (.int .i64 d.flds) ∧ W.cell? ⟨g2, 2, none⟩ = some (.int .i64 d.byts) :=
  ⟨blk_cell h.l 0, blk_cell h.l 1, blk_cell h.l 2⟩
theorem SMid.getz (h : SMid w0 w g1 g2 g3 W S d data vd vf) : W.cell? ⟨g3, 0, none⟩ = some (.int .i64 0) ∧ W.cell? ⟨g3, 1, none⟩ = some (.int .u64 0) ∧ W.cell? ⟨g3, 2, none⟩ = some (.int .i64 0) ∧ W.cell? ⟨g3, 3, none⟩ = some (.int .i64 0) ∧
    W.cell? ⟨g3, 4, none⟩ = some (.int .i64 0) ∧ W.cell? ⟨g3, 5, none⟩ = some (.string (⟨#[]⟩ : ByteArray)) ∧ W.cell? ⟨g3, 6, none⟩ = some (.slice none 0 0) ∧ W.cell? ⟨g3, 7, none⟩ = some (.slice none 0 0) :=
  ⟨blk_cell h.r 0, blk_cell h.r 1, blk_cell h.r 2, blk_cell h.r 3, blk_cell h.r 4, blk_cell h.r 5, blk_cell h.r 6, blk_cell h.r 7⟩
theorem SMid.all (h : SMid w0 w g1 g2 g3 W S d data vd vf) : (W.cell? ⟨g1, 0, none⟩ = some (.int .i64 d.place) ∧ W.cell? ⟨g1, 1, none⟩ = some (.int .u64 d.n) ∧ W.cell? ⟨g1, 2, none⟩ = some (.int .i64 d.count) ∧ W.cell? ⟨g1, 3, none⟩ = some (.int .i64 d.lines) ∧
    W.cell? ⟨g1, 4, none⟩ = some (.int .i64 d.size) ∧ W.cell? ⟨g1, 5, none⟩ = some (.string (strOfNums d.line)) ∧ W.cell? ⟨g1, 6, none⟩ = some vd ∧ W.cell? ⟨g1, 7, none⟩ = some vf) ∧
    (W.cell? ⟨g2, 0, none⟩ = some (.int .i64 d.ext) ∧ W.cell? ⟨g2, 1, none⟩ = some (.int .i64 d.flds) ∧ W.cell? ⟨g2, 2, none⟩ = some (.int .i64 d.byts)) ∧
    (W.cell? ⟨g3, 0, none⟩ = some (.int .i64 0) ∧ W.cell? ⟨g3, 1, none⟩ = some (.int .u64 0) ∧ W.cell? ⟨g3, 2, none⟩ = some (.int .i64 0) ∧ W.cell? ⟨g3, 3, none⟩ = some (.int .i64 0) ∧
    W.cell? ⟨g3, 4, none⟩ = some (.int .i64 0) ∧ W.cell? ⟨g3, 5, none⟩ = some (.string (⟨#[]⟩ : ByteArray)) ∧ W.cell? ⟨g3, 6, none⟩ = some (.slice none 0 0) ∧ W.cell? ⟨g3, 7, none⟩ = some (.slice none 0 0)) ∧
    (∀ j, W.frozen? ⟨g1, j, none⟩ = false) ∧ (∀ j, W.frozen? ⟨g3, j, none⟩ = false) ∧ g1 ≠ g3 ∧ g1 ≠ g2 ∧ g2 ≠ g3 := ⟨h.gets, h.getl, h.getz, h.frozen, h.frozen3, h.n13, h.n12, h.n23⟩
theorem SMid.step (h : SMid w0 w g1 g2 g3 W S d data vd vf) (hb : Below W.heap.size W W') : SMid w0 w g1 g2 g3 W' S d data vd vf :=
  ⟨blk_below h.s hb, blk_below h.l hb, blk_below h.r hb, h.rows.below hb, below_step h.below hb, kept_below h.kept hb, h.g1w, h.g3w, h.n12, h.n13, h.n23, h.w0w⟩
theorem SMid.drawn (h : SMid w0 w g1 g2 g3 W S d data vd vf) (n : Nat) : SMid w0 w g1 g2 g3 (W.drewN n) S d data vd vf := h.step (Drawn0.below ⟨n, rfl⟩)
/-- A store into the state. -/
theorem SMid.set (h : SMid w0 w g1 g2 g3 W S d data vd vf) (j : Nat) (v : Value) (hl : lCells d' = lCells d) (hf : d'.fields = d.fields) (hv : (sCells d vd vf).setIfInBounds j v = sCells d' vd vf) :
    SMid w0 w g1 g2 g3 (W.setCell ⟨g1, j, none⟩ v) S d' data vd vf :=
  ⟨blk_put h.s j v hv, by rw [hl]; exact blk_far h.l (fun e => h.n12 e.symm) v, blk_far h.r (fun e => h.n13 e.symm) v, ⟨(h.rows.set h.s j v).1, by rw [hf]; exact (h.rows.set h.s j v).2⟩, h.below.setCell (p := ⟨g1, j, none⟩) (Nat.le_trans h.w0w h.g1w) v, h.kept.setCell (.inr h.g1w) v, h.g1w, h.g3w, h.n12, h.n13, h.n23, h.w0w⟩
/-- The state is laid where it is handed back. -/
theorem leaf8 (q0 : W.heap[g3]? = some (.cells zCells 39 (0, 0))) (r0 : SRows W w0.heap.size (fun k => S k ∨ w.heap.size ≤ k) d data vd vf) (m0 : Below w0.heap.size w0 W) (k0 : Kept w W S) (g3w : w.heap.size ≤ g3) (w0w : w0.heap.size ≤ w.heap.size) :
    ((((((((W.setCell ⟨g3, 0, none⟩ (.int .i64 d.place)).setCell ⟨g3, 1, none⟩ (.int .u64 d.n)).setCell ⟨g3, 2, none⟩ (.int .i64 d.count)).setCell ⟨g3, 3, none⟩ (.int .i64 d.lines)).setCell ⟨g3, 4, none⟩ (.int .i64 d.size)).setCell ⟨g3, 5, none⟩ (.string (strOfNums d.line))).setCell ⟨g3, 6, none⟩ vd).setCell ⟨g3, 7, none⟩ vf).heap[g3]? = some (.cells (sCells d vd vf) 39 (0, 0)) ∧ SRows ((((((((W.setCell ⟨g3, 0, none⟩ (.int .i64 d.place)).setCell ⟨g3, 1, none⟩ (.int .u64 d.n)).setCell ⟨g3, 2, none⟩ (.int .i64 d.count)).setCell ⟨g3, 3, none⟩ (.int .i64 d.lines)).setCell ⟨g3, 4, none⟩ (.int .i64 d.size)).setCell ⟨g3, 5, none⟩ (.string (strOfNums d.line))).setCell ⟨g3, 6, none⟩ vd).setCell ⟨g3, 7, none⟩ vf) w0.heap.size (fun k => S k ∨ w.heap.size ≤ k) d data vd vf ∧ Below w0.heap.size w0 ((((((((W.setCell ⟨g3, 0, none⟩ (.int .i64 d.place)).setCell ⟨g3, 1, none⟩ (.int .u64 d.n)).setCell ⟨g3, 2, none⟩ (.int .i64 d.count)).setCell ⟨g3, 3, none⟩ (.int .i64 d.lines)).setCell ⟨g3, 4, none⟩ (.int .i64 d.size)).setCell ⟨g3, 5, none⟩ (.string (strOfNums d.line))).setCell ⟨g3, 6, none⟩ vd).setCell ⟨g3, 7, none⟩ vf) ∧ Kept w ((((((((W.setCell ⟨g3, 0, none⟩ (.int .i64 d.place)).setCell ⟨g3, 1, none⟩ (.int .u64 d.n)).setCell ⟨g3, 2, none⟩ (.int .i64 d.count)).setCell ⟨g3, 3, none⟩ (.int .i64 d.lines)).setCell ⟨g3, 4, none⟩ (.int .i64 d.size)).setCell ⟨g3, 5, none⟩ (.string (strOfNums d.line))).setCell ⟨g3, 6, none⟩ vd).setCell ⟨g3, 7, none⟩ vf) S := by
  have hb := Nat.le_trans w0w g3w
  have q1 := blk_put (cs' := #[.int .i64 d.place, .int .u64 0, .int .i64 0, .int .i64 0, .int .i64 0, .string (⟨#[]⟩ : ByteArray), .slice none 0 0, .slice none 0 0]) q0 0 (.int .i64 d.place) rfl
  have r1 := r0.set q0 0 (.int .i64 d.place)
  have m1 := m0.setCell (p := ⟨g3, 0, none⟩) hb (.int .i64 d.place)
  have k1 := k0.setCell (p := ⟨g3, 0, none⟩) (.inr g3w) (.int .i64 d.place)
  have q2 := blk_put (cs' := #[.int .i64 d.place, .int .u64 d.n, .int .i64 0, .int .i64 0, .int .i64 0, .string (⟨#[]⟩ : ByteArray), .slice none 0 0, .slice none 0 0]) q1 1 (.int .u64 d.n) rfl
  have r2 := r1.set q1 1 (.int .u64 d.n)
  have m2 := m1.setCell (p := ⟨g3, 1, none⟩) hb (.int .u64 d.n)
  have k2 := k1.setCell (p := ⟨g3, 1, none⟩) (.inr g3w) (.int .u64 d.n)
  have q3 := blk_put (cs' := #[.int .i64 d.place, .int .u64 d.n, .int .i64 d.count, .int .i64 0, .int .i64 0, .string (⟨#[]⟩ : ByteArray), .slice none 0 0, .slice none 0 0]) q2 2 (.int .i64 d.count) rfl
  have r3 := r2.set q2 2 (.int .i64 d.count)
  have m3 := m2.setCell (p := ⟨g3, 2, none⟩) hb (.int .i64 d.count)
  have k3 := k2.setCell (p := ⟨g3, 2, none⟩) (.inr g3w) (.int .i64 d.count)
  have q4 := blk_put (cs' := #[.int .i64 d.place, .int .u64 d.n, .int .i64 d.count, .int .i64 d.lines, .int .i64 0, .string (⟨#[]⟩ : ByteArray), .slice none 0 0, .slice none 0 0]) q3 3 (.int .i64 d.lines) rfl
  have r4 := r3.set q3 3 (.int .i64 d.lines)
  have m4 := m3.setCell (p := ⟨g3, 3, none⟩) hb (.int .i64 d.lines)
  have k4 := k3.setCell (p := ⟨g3, 3, none⟩) (.inr g3w) (.int .i64 d.lines)
  have q5 := blk_put (cs' := #[.int .i64 d.place, .int .u64 d.n, .int .i64 d.count, .int .i64 d.lines, .int .i64 d.size, .string (⟨#[]⟩ : ByteArray), .slice none 0 0, .slice none 0 0]) q4 4 (.int .i64 d.size) rfl
  have r5 := r4.set q4 4 (.int .i64 d.size)
  have m5 := m4.setCell (p := ⟨g3, 4, none⟩) hb (.int .i64 d.size)
  have k5 := k4.setCell (p := ⟨g3, 4, none⟩) (.inr g3w) (.int .i64 d.size)
  have q6 := blk_put (cs' := #[.int .i64 d.place, .int .u64 d.n, .int .i64 d.count, .int .i64 d.lines, .int .i64 d.size, .string (strOfNums d.line), .slice none 0 0, .slice none 0 0]) q5 5 (.string (strOfNums d.line)) rfl
  have r6 := r5.set q5 5 (.string (strOfNums d.line))
  have m6 := m5.setCell (p := ⟨g3, 5, none⟩) hb (.string (strOfNums d.line))
  have k6 := k5.setCell (p := ⟨g3, 5, none⟩) (.inr g3w) (.string (strOfNums d.line))
  have q7 := blk_put (cs' := #[.int .i64 d.place, .int .u64 d.n, .int .i64 d.count, .int .i64 d.lines, .int .i64 d.size, .string (strOfNums d.line), vd, .slice none 0 0]) q6 6 (vd) rfl
  have r7 := r6.set q6 6 (vd)
  have m7 := m6.setCell (p := ⟨g3, 6, none⟩) hb (vd)
  have k7 := k6.setCell (p := ⟨g3, 6, none⟩) (.inr g3w) (vd)
  have q8 := blk_put (cs' := #[.int .i64 d.place, .int .u64 d.n, .int .i64 d.count, .int .i64 d.lines, .int .i64 d.size, .string (strOfNums d.line), vd, vf]) q7 7 (vf) rfl
  have r8 := r7.set q7 7 (vf)
  have m8 := m7.setCell (p := ⟨g3, 7, none⟩) hb (vf)
  have k8 := k7.setCell (p := ⟨g3, 7, none⟩) (.inr g3w) (vf)
  exact ⟨q8, r8, m8, k8⟩
/-- The state is laid where it is handed back; what lay before stays. -/
theorem leafB (q0 : W.heap[g3]? = some (.cells zCells 39 (0, 0))) (m0 : Below w.heap.size w W) (g3w : w.heap.size ≤ g3) :
    ((((((((W.setCell ⟨g3, 0, none⟩ (.int .i64 d.place)).setCell ⟨g3, 1, none⟩ (.int .u64 d.n)).setCell ⟨g3, 2, none⟩ (.int .i64 d.count)).setCell ⟨g3, 3, none⟩ (.int .i64 d.lines)).setCell ⟨g3, 4, none⟩ (.int .i64 d.size)).setCell ⟨g3, 5, none⟩ (.string (strOfNums d.line))).setCell ⟨g3, 6, none⟩ (vd)).setCell ⟨g3, 7, none⟩ (vf)).heap[g3]? = some (.cells (sCells d vd vf) 39 (0, 0)) ∧ Below w.heap.size w ((((((((W.setCell ⟨g3, 0, none⟩ (.int .i64 d.place)).setCell ⟨g3, 1, none⟩ (.int .u64 d.n)).setCell ⟨g3, 2, none⟩ (.int .i64 d.count)).setCell ⟨g3, 3, none⟩ (.int .i64 d.lines)).setCell ⟨g3, 4, none⟩ (.int .i64 d.size)).setCell ⟨g3, 5, none⟩ (.string (strOfNums d.line))).setCell ⟨g3, 6, none⟩ (vd)).setCell ⟨g3, 7, none⟩ (vf)) := by
  have q1 := blk_put (cs' := #[.int .i64 d.place, .int .u64 0, .int .i64 0, .int .i64 0, .int .i64 0, .string (⟨#[]⟩ : ByteArray), .slice none 0 0, .slice none 0 0]) q0 0 (.int .i64 d.place) rfl
  have m1 := m0.setCell (p := ⟨g3, 0, none⟩) g3w (.int .i64 d.place)
  have q2 := blk_put (cs' := #[.int .i64 d.place, .int .u64 d.n, .int .i64 0, .int .i64 0, .int .i64 0, .string (⟨#[]⟩ : ByteArray), .slice none 0 0, .slice none 0 0]) q1 1 (.int .u64 d.n) rfl
  have m2 := m1.setCell (p := ⟨g3, 1, none⟩) g3w (.int .u64 d.n)
  have q3 := blk_put (cs' := #[.int .i64 d.place, .int .u64 d.n, .int .i64 d.count, .int .i64 0, .int .i64 0, .string (⟨#[]⟩ : ByteArray), .slice none 0 0, .slice none 0 0]) q2 2 (.int .i64 d.count) rfl
  have m3 := m2.setCell (p := ⟨g3, 2, none⟩) g3w (.int .i64 d.count)
  have q4 := blk_put (cs' := #[.int .i64 d.place, .int .u64 d.n, .int .i64 d.count, .int .i64 d.lines, .int .i64 0, .string (⟨#[]⟩ : ByteArray), .slice none 0 0, .slice none 0 0]) q3 3 (.int .i64 d.lines) rfl
  have m4 := m3.setCell (p := ⟨g3, 3, none⟩) g3w (.int .i64 d.lines)
  have q5 := blk_put (cs' := #[.int .i64 d.place, .int .u64 d.n, .int .i64 d.count, .int .i64 d.lines, .int .i64 d.size, .string (⟨#[]⟩ : ByteArray), .slice none 0 0, .slice none 0 0]) q4 4 (.int .i64 d.size) rfl
  have m5 := m4.setCell (p := ⟨g3, 4, none⟩) g3w (.int .i64 d.size)
  have q6 := blk_put (cs' := #[.int .i64 d.place, .int .u64 d.n, .int .i64 d.count, .int .i64 d.lines, .int .i64 d.size, .string (strOfNums d.line), .slice none 0 0, .slice none 0 0]) q5 5 (.string (strOfNums d.line)) rfl
  have m6 := m5.setCell (p := ⟨g3, 5, none⟩) g3w (.string (strOfNums d.line))
  have q7 := blk_put (cs' := #[.int .i64 d.place, .int .u64 d.n, .int .i64 d.count, .int .i64 d.lines, .int .i64 d.size, .string (strOfNums d.line), vd, .slice none 0 0]) q6 6 (vd) rfl
  have m7 := m6.setCell (p := ⟨g3, 6, none⟩) g3w (vd)
  have q8 := blk_put (cs' := #[.int .i64 d.place, .int .u64 d.n, .int .i64 d.count, .int .i64 d.lines, .int .i64 d.size, .string (strOfNums d.line), vd, vf]) q7 7 (vf) rfl
  have m8 := m7.setCell (p := ⟨g3, 7, none⟩) g3w (vf)
  exact ⟨q8, m8⟩
theorem SMid.leaf (h : SMid w0 w g1 g2 g3 W S d data vd vf) :
    ((((((((W.setCell ⟨g3, 0, none⟩ (.int .i64 d.place)).setCell ⟨g3, 1, none⟩ (.int .u64 d.n)).setCell ⟨g3, 2, none⟩ (.int .i64 d.count)).setCell ⟨g3, 3, none⟩ (.int .i64 d.lines)).setCell ⟨g3, 4, none⟩ (.int .i64 d.size)).setCell ⟨g3, 5, none⟩ (.string (strOfNums d.line))).setCell ⟨g3, 6, none⟩ vd).setCell ⟨g3, 7, none⟩ vf).heap[g3]? = some (.cells (sCells d vd vf) 39 (0, 0)) ∧ SRows ((((((((W.setCell ⟨g3, 0, none⟩ (.int .i64 d.place)).setCell ⟨g3, 1, none⟩ (.int .u64 d.n)).setCell ⟨g3, 2, none⟩ (.int .i64 d.count)).setCell ⟨g3, 3, none⟩ (.int .i64 d.lines)).setCell ⟨g3, 4, none⟩ (.int .i64 d.size)).setCell ⟨g3, 5, none⟩ (.string (strOfNums d.line))).setCell ⟨g3, 6, none⟩ vd).setCell ⟨g3, 7, none⟩ vf) w0.heap.size (fun k => S k ∨ w.heap.size ≤ k) d data vd vf ∧ Below w0.heap.size w0 ((((((((W.setCell ⟨g3, 0, none⟩ (.int .i64 d.place)).setCell ⟨g3, 1, none⟩ (.int .u64 d.n)).setCell ⟨g3, 2, none⟩ (.int .i64 d.count)).setCell ⟨g3, 3, none⟩ (.int .i64 d.lines)).setCell ⟨g3, 4, none⟩ (.int .i64 d.size)).setCell ⟨g3, 5, none⟩ (.string (strOfNums d.line))).setCell ⟨g3, 6, none⟩ vd).setCell ⟨g3, 7, none⟩ vf) ∧ Kept w ((((((((W.setCell ⟨g3, 0, none⟩ (.int .i64 d.place)).setCell ⟨g3, 1, none⟩ (.int .u64 d.n)).setCell ⟨g3, 2, none⟩ (.int .i64 d.count)).setCell ⟨g3, 3, none⟩ (.int .i64 d.lines)).setCell ⟨g3, 4, none⟩ (.int .i64 d.size)).setCell ⟨g3, 5, none⟩ (.string (strOfNums d.line))).setCell ⟨g3, 6, none⟩ vd).setCell ⟨g3, 7, none⟩ vf) S := leaf8 h.r h.rows h.below h.kept h.g3w h.w0w
/-- What lay stays as it lay. -/
theorem SMid.stay (h : SMid w0 w g1 g2 g3 W S d data vd vf) (hm : ∀ k, k < W.heap.size → W'.heap[k]? = W.heap[k]?) (hz : W.heap.size ≤ W'.heap.size) (hB : Below w0.heap.size w0 W') : SMid w0 w g1 g2 g3 W' S d data vd vf :=
  ⟨(hm _ (blk_lt h.s)).trans h.s, (hm _ (blk_lt h.l)).trans h.l, (hm _ (blk_lt h.r)).trans h.r, ⟨Kd.R_step h.rows.1 (fun k _ hk => hm k hk), Kd.R_step h.rows.2 (fun k _ hk => hm k hk)⟩, hB,
    ⟨Nat.le_trans h.kept.1 hz, fun i hi hs => (hm i (Nat.lt_of_lt_of_le hi h.kept.1)).trans (h.kept.2 i hi hs)⟩, h.g1w, h.g3w, h.n12, h.n13, h.n23, h.w0w⟩
/-- The data are laid anew. -/
theorem SMid.setd (h : SMid w0 w g1 g2 g3 W S d data vd vf) {v2 : Value} {data2 : List Int} (hR : Kd.R (Kd.int .u8) 5 W w0.heap.size (fun k => S k ∨ w.heap.size ≤ k) v2 data2) :
    SMid w0 w g1 g2 g3 (W.setCell ⟨g1, 6, none⟩ v2) S d data2 v2 vf := by
  have hr : SRows W w0.heap.size (fun k => S k ∨ w.heap.size ≤ k) d data2 v2 vf := ⟨hR, h.rows.2⟩
  exact ⟨blk_put h.s 6 v2 rfl, blk_far h.l (fun e => h.n12 e.symm) v2, blk_far h.r (fun e => h.n13 e.symm) v2, hr.set h.s 6 v2, h.below.setCell (p := ⟨g1, 6, none⟩) (Nat.le_trans h.w0w h.g1w) v2, h.kept.setCell (.inr h.g1w) v2, h.g1w, h.g3w, h.n12, h.n13, h.n23, h.w0w⟩
/-- The rows, told apart from what is handed back. -/
theorem SMid.apart (h : SMid w0 w g1 g2 g3 W S d data vd vf) : SRows W w0.heap.size (fun k => (S k ∨ w.heap.size ≤ k) ∧ k ≠ g3) d data vd vf :=
  ⟨Kd.R_types h.rows.1 h.r (by simp [Kd.int, Kd.scalar]), Kd.R_types h.rows.2 h.r (by simp [k53, Kd.iso, Kd.pair, Kd.string, Kd.scalar])⟩
/-- A call of line, whose answer is handed back. -/
theorem SMid.lined {d2 : Dc} {v6 v7 : Value} {data2 : List Int} (h : SMid w0 w g1 g2 g3 W S d data vd vf)
    (r1 : Kd.R (Kd.int .u8) 5 W' w0.heap.size (fun k => ((((S k ∨ w.heap.size ≤ k) ∧ k ≠ g3) ∨ ((S k ∨ w.heap.size ≤ k) ∧ k ≠ g3)) ∨ W.heap.size ≤ k)) v6 data2)
    (r2 : Kd.R k53 53 W' w0.heap.size (fun k => ((((S k ∨ w.heap.size ≤ k) ∧ k ≠ g3) ∨ ((S k ∨ w.heap.size ≤ k) ∧ k ≠ g3)) ∨ W.heap.size ≤ k)) v7 d2.fields)
    (hB : Below w0.heap.size w0 W') (hK : Kept W W' (fun k => ((S k ∨ w.heap.size ≤ k) ∧ k ≠ g3) ∨ ((S k ∨ w.heap.size ≤ k) ∧ k ≠ g3))) :
    W'.heap[g3]? = some (.cells zCells 39 (0, 0)) ∧ SRows W' w0.heap.size (fun k => S k ∨ w.heap.size ≤ k) d2 data2 v6 v7 ∧ Below w0.heap.size w0 W' ∧ Kept w W' S := by
  have hz := h.kept.1
  have hs : ∀ k, ((((S k ∨ w.heap.size ≤ k) ∧ k ≠ g3) ∨ ((S k ∨ w.heap.size ≤ k) ∧ k ≠ g3)) ∨ W.heap.size ≤ k) → (S k ∨ w.heap.size ≤ k) := fun k hk => hk.elim (fun e => e.elim (·.1) (·.1)) (fun e => .inr (Nat.le_trans hz e))
  refine ⟨(hK.2 g3 (blk_lt h.r) (fun e => e.elim (fun e => e.2 rfl) (fun e => e.2 rfl))).trans h.r, ⟨Kd.R_mono r1 hs, Kd.R_mono r2 hs⟩, hB, ⟨Nat.le_trans hz hK.1, fun i hi hn => (hK.2 i (Nat.lt_of_lt_of_le hi hz) (fun e => ?_)).trans (h.kept.2 i hi hn)⟩⟩
  exact e.elim (fun e => e.1.elim hn (fun e => by omega)) (fun e => e.1.elim hn (fun e => by omega))
end

/-- What Step leaves: where it tells no error, the decoder's own next state. -/
def SPost (w0 w : World) (S : Nat → Prop) (d : Dc) (data : List Int) (c : Int) (e : Ending) (w' : World) : Prop :=
  ∃ d' data' vd vf, e = .returned (.tuple #[.agg (sCells d' vd vf), .int .i64 (bput d c).1.e]) ∧ SRows w' w0.heap.size (fun k => S k ∨ w.heap.size ≤ k) d' data' vd vf ∧ Below w0.heap.size w0 w' ∧ Kept w w' S ∧ ((bput d c).1.e = 0 → d' = (bput d c).1 ∧ data' = data ++ (bput d c).2.2) ∧ ((bput d c).1.e ≠ 0 → Below w.heap.size w w')
end Go.Proofs.YtebjfgkgfgbndaaDoor
