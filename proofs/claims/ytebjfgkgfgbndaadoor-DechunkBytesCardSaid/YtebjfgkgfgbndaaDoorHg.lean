/- The chunked decoder's step as a plain function, and what its numbers keep. -/
import Derived.Test.YtebjfgkgfgbndaaDoorHf
namespace Go.Proofs.YtebjfgkgfgbndaaDoor
open Go.RowKit Go.Proofs.YtebjfgkgfgbndaaDoorW.PrintWords Go.Proofs.YtebjfgkgfgbndaaDoorW.PrintLast Go.Proofs.YtebjfgkgfgbndaaDoorW.PrintMore
open PBodyScans
set_option linter.unusedVariables false
set_option linter.unusedSimpArgs false

def dStep (d : Dc) (c : Int) : Dc × Int :=
  if d.place = 0 then dDigit d c else if d.place = 1 then dExt d c else if d.place = 2 then dBegun d c else if d.place = 4 then dClosed d c
  else if d.place = 5 then dAgain d c else if d.place = 6 then dFirst d c else if d.place = 7 then dNamed d c else if d.place = 8 then dValued d c
  else if d.place = 9 then dLine d c else dFinish d c

structure DInv (d : Dc) : Prop where
  ok : DcOk d
  p0 : 0 ≤ d.place
  p1 : d.place ≤ 11
  c0 : d.place = 0 → d.count ≤ 16
  n3 : d.place = 3 → 1 ≤ d.n
  l9 : d.place = 9 → 1 ≤ d.line.length
  fl : 7 ≤ d.place ∧ d.place ≤ 9 → (d.fields.length : Int) + 1 ≤ d.lines

theorem DInv.e {d : Dc} (h : DInv d) (x : Int) : DInv { d with e := x } := by
  obtain ⟨⟨a1, a2, a3, a4, a5, a6, a7, a8, a9, a10, a11, a12, a13, a14, a15, a16⟩, b1, b2, b3, b4, b5, b6⟩ := h
  exact ⟨⟨a1, a2, a3, a4, a5, a6, a7, a8, a9, a10, a11, a12, a13, a14, a15, a16⟩, b1, b2, b3, b4, b5, b6⟩

theorem dMore_inv {d : Dc} (h : DInv d) (c p : Int) (hp : 6 ≤ p ∧ p ≤ 9) (hf : 7 ≤ p → (d.fields.length : Int) + 1 ≤ d.lines) : DInv (dMore d c p).1 := by
  unfold dMore
  split
  · exact h
  · rename_i hs
    obtain ⟨⟨a1, a2, a3, a4, a5, a6, a7, a8, a9, a10, a11, a12, a13, a14, a15, a16⟩, b1, b2, b3, b4, b5, b6⟩ := h
    refine ⟨⟨a1, a2, a3, a4, a5, a6, a7, a8, a9, a10, a11, a12, ?_, ?_, ?_, a16⟩, ?_, ?_, ?_, ?_, ?_, ?_⟩
    · show 0 ≤ d.size + 1; omega
    · show d.size + 1 ≤ 65536; omega
    · show ((d.line ++ [c]).length : Int) ≤ d.size + 1
      rw [List.length_append]
      simp only [List.length_cons, List.length_nil]
      omega
    · show 0 ≤ p; omega
    · show p ≤ 11; omega
    · intro h0; exfalso; have : p = 0 := h0; omega
    · intro h0; exfalso; have : p = 3 := h0; omega
    · intro _; show 1 ≤ (d.line ++ [c]).length; rw [List.length_append]; simp
    · intro h0; have h1 : 7 ≤ p := h0.1; exact hf h1

theorem dTo_inv {d : Dc} (h : DInv d) (p : Int) (ok : Bool) (h0 : 0 ≤ p) (h1 : p ≤ 11) (hc : p = 0 → d.count ≤ 16) (h3 : p = 3 → 1 ≤ d.n) (h7 : ¬ (7 ≤ p ∧ p ≤ 9)) : DInv (dTo d p ok).1 := by
  unfold dTo
  split
  · obtain ⟨⟨a1, a2, a3, a4, a5, a6, a7, a8, a9, a10, a11, a12, a13, a14, a15, a16⟩, b1, b2, b3, b4, b5, b6⟩ := h
    exact ⟨⟨a1, a2, a3, a4, a5, a6, a7, a8, a9, a10, a11, a12, a13, a14, a15, a16⟩, h0, h1, hc, h3, fun e => absurd e (by show ¬ p = 9; omega), fun e => absurd e h7⟩
  · exact h

theorem dExt_inv {d : Dc} (h : DInv d) (hp : d.place = 1) (c : Int) : DInv (dExt d c).1 := by
  unfold dExt
  split
  · exact dTo_inv h 2 true (by omega) (by omega) (by omega) (by omega) (by omega)
  · split
    · exact h
    · split
      · exact h
      · obtain ⟨⟨a1, a2, a3, a4, a5, a6, a7, a8, a9, a10, a11, a12, a13, a14, a15, a16⟩, b1, b2, b3, b4, b5, b6⟩ := h
        refine ⟨⟨a1, a2, a3, a4, a5, a6, a7, a8, ?_, ?_, a11, a12, a13, a14, a15, a16⟩, b1, b2, ?_, b4, b5, b6⟩
        · show 0 ≤ d.count + 1; omega
        · show d.count + 1 ≤ 65536; omega
        · intro e; exfalso; have : d.place = 0 := e; omega

theorem more_range (n c : Int) (h0 : 0 ≤ n) : (moreN n c).2 = 0 → 0 ≤ (moreN n c).1 ∧ (moreN n c).1 ≤ 4611686018427387903 := by
  unfold moreN
  have hr := digV_range c
  split
  · intro h; simp at h
  · split
    · intro h; simp at h
    · intro _
      show 0 ≤ 16 * n + digV c ∧ 16 * n + digV c ≤ 4611686018427387903
      omega

theorem dDigit_inv {d : Dc} (h : DInv d) (hp : d.place = 0) (c : Int) : DInv (dDigit d c).1 := by
  have hc0 := h.c0 hp
  unfold dDigit
  split
  · split
    · exact h
    · rename_i hn
      have hm := more_range d.n c h.ok.n0 (by by_cases he : (moreN d.n c).2 = 0; exact he; exact absurd (.inr he) hn)
      have hc16 : d.count ≠ 16 := fun e => hn (.inl e)
      obtain ⟨⟨a1, a2, a3, a4, a5, a6, a7, a8, a9, a10, a11, a12, a13, a14, a15, a16⟩, b1, b2, b3, b4, b5, b6⟩ := h
      refine ⟨⟨a1, a2, a3, a4, a5, a6, hm.1, hm.2, ?_, ?_, a11, a12, a13, a14, a15, a16⟩, b1, b2, ?_, ?_, b5, b6⟩
      · show 0 ≤ d.count + 1; omega
      · show d.count + 1 ≤ 65536; omega
      · intro _; show d.count + 1 ≤ 16; omega
      · intro e; exfalso; have : d.place = 3 := e; omega
  · split
    · exact h
    · have h1 : DInv { d with count := 0, place := 1 } := by
        obtain ⟨⟨a1, a2, a3, a4, a5, a6, a7, a8, a9, a10, a11, a12, a13, a14, a15, a16⟩, b1, b2, b3, b4, b5, b6⟩ := h
        exact ⟨⟨a1, a2, a3, a4, a5, a6, a7, a8, Int.le_refl 0, by show (0 : Int) ≤ 65536; omega, a11, a12, a13, a14, a15, a16⟩, by show (0 : Int) ≤ 1; omega, by show (1 : Int) ≤ 11; omega, fun e => absurd e (by show ¬ (1 : Int) = 0; omega), fun e => absurd e (by show ¬ (1 : Int) = 3; omega), fun e => absurd e (by show ¬ (1 : Int) = 9; omega), fun e => absurd e (by show ¬ ((7 : Int) ≤ 1 ∧ (1 : Int) ≤ 9); omega)⟩
      have h2 := dExt_inv h1 rfl c
      split
      · split
        · obtain ⟨⟨a1, a2, a3, a4, a5, a6, a7, a8, a9, a10, a11, a12, a13, a14, a15, a16⟩, b1, b2, b3, b4, b5, b6⟩ := h2
          exact ⟨⟨a1, a2, a3, a4, a5, a6, a7, a8, by show (0 : Int) ≤ 1; omega, by show (1 : Int) ≤ 65536; omega, a11, a12, a13, a14, a15, a16⟩, by show (0 : Int) ≤ 0; omega, by show (0 : Int) ≤ 11; omega, fun _ => by show (1 : Int) ≤ 16; omega, fun e => absurd e (by show ¬ (0 : Int) = 3; omega), fun e => absurd e (by show ¬ (0 : Int) = 9; omega), fun e => absurd e (by show ¬ ((7 : Int) ≤ 0 ∧ (0 : Int) ≤ 9); omega)⟩
        · exact h2
      · exact dTo_inv h 2 _ (by omega) (by omega) (by omega) (by omega) (by omega)

theorem dStep_inv {d : Dc} (h : DInv d) (h3 : d.place ≠ 3) (h11 : d.place ≠ 11) (c : Int) : DInv (dStep d c).1 := by
  have hp0 := h.p0
  have hp1 := h.p1
  unfold dStep
  by_cases e0 : d.place = 0
  · rw [if_pos e0]; exact dDigit_inv h e0 c
  rw [if_neg e0]
  by_cases e1 : d.place = 1
  · rw [if_pos e1]; exact dExt_inv h e1 c
  rw [if_neg e1]
  by_cases e2 : d.place = 2
  · rw [if_pos e2]; unfold dBegun
    have hn0 := h.ok.n0
    split
    · exact dTo_inv h 6 _ (by omega) (by omega) (by omega) (by omega) (by omega)
    · exact dTo_inv h 3 _ (by omega) (by omega) (by omega) (by omega) (by omega)
  rw [if_neg e2]
  by_cases e4 : d.place = 4
  · rw [if_pos e4]; exact dTo_inv h 5 _ (by omega) (by omega) (by omega) (by omega) (by omega)
  rw [if_neg e4]
  by_cases e5 : d.place = 5
  · rw [if_pos e5]; unfold dAgain
    have h1 : DInv { d with count := 0 } := by
      obtain ⟨⟨a1, a2, a3, a4, a5, a6, a7, a8, a9, a10, a11, a12, a13, a14, a15, a16⟩, b1, b2, b3, b4, b5, b6⟩ := h
      exact ⟨⟨a1, a2, a3, a4, a5, a6, a7, a8, Int.le_refl 0, by show (0 : Int) ≤ 65536; omega, a11, a12, a13, a14, a15, a16⟩, b1, b2, fun _ => by show (0 : Int) ≤ 16; omega, b4, b5, b6⟩
    exact dTo_inv h1 0 _ (by omega) (by omega) (fun _ => by show (0 : Int) ≤ 16; omega) (by omega) (by omega)
  rw [if_neg e5]
  by_cases e6 : d.place = 6
  · rw [if_pos e6]; unfold dFirst
    split
    · exact dTo_inv h 10 true (by omega) (by omega) (by omega) (by omega) (by omega)
    · split
      · exact h
      · split
        · exact h
        · rename_i hl
          by_cases hs : d.size ≥ d.byts
          · have e : dMore d c 7 = (d, 5) := by unfold dMore; rw [if_pos hs]
            rw [e]
            simp only [if_neg (show ¬ (5 : Int) = 0 by omega)]
            exact h
          · have e : dMore d c 7 = ({ d with size := d.size + 1, line := d.line ++ [c], place := 7 }, 0) := by unfold dMore; rw [if_neg hs]
            rw [e]
            simp only [if_true]
            have hfl := h.ok.flen
            obtain ⟨⟨a1, a2, a3, a4, a5, a6, a7, a8, a9, a10, a11, a12, a13, a14, a15, a16⟩, b1, b2, b3, b4, b5, b6⟩ := h
            refine ⟨⟨a1, a2, a3, a4, a5, a6, a7, a8, a9, a10, ?_, ?_, ?_, ?_, ?_, ?_⟩, ?_, ?_, ?_, ?_, ?_, ?_⟩
            · show 0 ≤ d.lines + 1; omega
            · show d.lines + 1 ≤ 65536; omega
            · show 0 ≤ d.size + 1; omega
            · show d.size + 1 ≤ 65536; omega
            · show ((d.line ++ [c]).length : Int) ≤ d.size + 1
              rw [List.length_append]
              simp only [List.length_cons, List.length_nil]
              omega
            · show (d.fields.length : Int) ≤ d.lines + 1; omega
            · show (0 : Int) ≤ 7; omega
            · show (7 : Int) ≤ 11; omega
            · intro e; exact absurd e (by show ¬ (7 : Int) = 0; omega)
            · intro e; exact absurd e (by show ¬ (7 : Int) = 3; omega)
            · intro e; exact absurd e (by show ¬ (7 : Int) = 9; omega)
            · intro _; show (d.fields.length : Int) + 1 ≤ d.lines + 1; omega
  rw [if_neg e6]
  by_cases e7 : d.place = 7
  · rw [if_pos e7]; unfold dNamed
    have hf := h.fl (by omega)
    split
    · exact dMore_inv h c 8 (by omega) (fun _ => hf)
    · split
      · exact h
      · exact dMore_inv h c 7 (by omega) (fun _ => hf)
  rw [if_neg e7]
  by_cases e8 : d.place = 8
  · rw [if_pos e8]; unfold dValued
    have hf := h.fl (by omega)
    split
    · exact dMore_inv h c 9 (by omega) (fun _ => hf)
    · split
      · exact h
      · exact dMore_inv h c 8 (by omega) (fun _ => hf)
  rw [if_neg e8]
  by_cases e9 : d.place = 9
  · rw [if_pos e9]; unfold dLine
    have hf := h.fl (by omega)
    split
    · exact h
    · split
      · exact h
      · obtain ⟨⟨a1, a2, a3, a4, a5, a6, a7, a8, a9, a10, a11, a12, a13, a14, a15, a16⟩, b1, b2, b3, b4, b5, b6⟩ := h
        refine ⟨⟨a1, a2, a3, a4, a5, a6, a7, a8, a9, a10, a11, a12, ?_, ?_, ?_, ?_⟩, ?_, ?_, ?_, ?_, ?_, ?_⟩
        · show 0 ≤ d.size + 1; omega
        · show d.size + 1 ≤ 65536; omega
        · show ((([] : List Int).length : Nat) : Int) ≤ d.size + 1; simp only [List.length_nil]; omega
        · show ((d.fields ++ [_]).length : Int) ≤ d.lines
          rw [List.length_append]
          simp only [List.length_cons, List.length_nil]
          omega
        · show (0 : Int) ≤ 6; omega
        · show (6 : Int) ≤ 11; omega
        · intro e; exact absurd e (by show ¬ (6 : Int) = 0; omega)
        · intro e; exact absurd e (by show ¬ (6 : Int) = 3; omega)
        · intro e; exact absurd e (by show ¬ (6 : Int) = 9; omega)
        · intro e; exact absurd e (by show ¬ ((7 : Int) ≤ 6 ∧ (6 : Int) ≤ 9); omega)
  rw [if_neg e9]
  exact dTo_inv h 11 _ (by omega) (by omega) (by omega) (by omega) (by omega)
end Go.Proofs.YtebjfgkgfgbndaaDoor
