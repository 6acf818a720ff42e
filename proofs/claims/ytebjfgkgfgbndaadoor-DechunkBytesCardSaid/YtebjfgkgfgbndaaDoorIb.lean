/- The law DechunkBytes: a contract (walk) over this seat's translation. -/
import Derived.Test.YtebjfgkgfgbndaaDoorIa
namespace Go.Proofs.YtebjfgkgfgbndaaDoor
open Go.RowKit Go.Proofs.YtebjfgkgfgbndaaDoorW.PrintWords Go.Proofs.YtebjfgkgfgbndaaDoorW.PrintLast Go.Proofs.YtebjfgkgfgbndaaDoorW.PrintMore
open PBodyScans
set_option linter.unusedVariables false
set_option linter.unusedSimpArgs false

theorem fields_l0 (xs : List S53) (hl : xs.length ≤ 1000000) : ∀ (k : Nat) (i : Int), 0 ≤ i → 1 ≤ k → (xs.length : Int) - i + 1 ≤ k → catchpitref05_Fields.l0 k xs xs i = some true
  | 0, i, h0, h1, h => by omega
  | k + 1, i, h0, h1, h => by
    unfold catchpitref05_Fields.l0
    by_cases hi : i < (xs.length : Int)
    · rw [if_pos hi, if_pos h0, if_pos hi, if_neg (by simp), wrap_ok _ (by omega) (by omega)]
      exact fields_l0 xs hl k (i + 1) (by omega) (by omega) (by omega)
    · rw [if_neg hi]
theorem fields_refl (xs : List S53) (hl : xs.length ≤ 1000000) : catchpitref05_Fields.f (xs.length + 1) xs xs = some true := by
  unfold catchpitref05_Fields.f
  rw [if_pos rfl]
  exact fields_l0 xs hl _ 0 (Int.le_refl 0) (by omega) (by omega)
theorem same_l0 (xs : List Int) (hl : xs.length ≤ 1000000) : ∀ (k : Nat) (i : Int), 0 ≤ i → 1 ≤ k → (xs.length : Int) - i + 1 ≤ k → catchpitref03_Same.l0 k xs xs i = some true
  | 0, i, h0, h1, h => by omega
  | k + 1, i, h0, h1, h => by
    unfold catchpitref03_Same.l0
    by_cases hi : i < (xs.length : Int)
    · rw [if_pos hi, if_pos h0, if_pos hi, if_pos rfl, wrap_ok _ (by omega) (by omega)]
      exact same_l0 xs hl k (i + 1) (by omega) (by omega) (by omega)
    · rw [if_neg hi]
theorem same_refl (xs : List Int) (hl : xs.length ≤ 1000000) : catchpitref08_Same.f (xs.length + 1) xs xs = some true := by
  unfold catchpitref08_Same.f catchpitref03_Same.f
  rw [if_pos rfl, same_l0 xs hl _ 0 (Int.le_refl 0) (by omega) (by omega)]
  rfl

/-- One decoder fed byte by byte, and what it has handed out: W0 is the world where the feeding begins. -/
structure One (W0 W : World) (B gf : Nat) (F : Dc) (vo : Value) (out : List Int) (Sf So : Nat → Prop) : Prop where
  dc : DcAt W B gf Sf F
  out : Kd.R (Kd.int .u8) 5 W B So vo out
  dis : ∀ k, Sf k → So k → False
  sf : ∀ k, Sf k → W0.heap.size ≤ k
  so : ∀ k, So k → W0.heap.size ≤ k
  below : Below B W0 W
  kept : Kept W0 W (fun k => k = gf)
  glt : gf < W0.heap.size
section
variable {W0 W W1 W2 : World} {B gf : Nat} {F : Dc} {vo : Value} {out : List Int} {Sf So : Nat → Prop}
theorem One.start (h : DcAt W0 B gf (fun _ => False) F) : One W0 W0 B gf F (.slice none 0 0) [] (fun _ => False) (fun _ => False) :=
  ⟨h, Kd.R_nil _ _ _ _ _, fun _ h _ => h, fun _ h => h.elim, fun _ h => h.elim, Below.refl _ _, Kept.refl _ _, h.lt⟩
theorem One.block (h : One W0 W B gf F vo out Sf So) (k : Nat) (hk : k < W0.heap.size) (hg : k ≠ gf) : W.heap[k]? = W0.heap[k]? := h.kept.2 k hk hg
/-- A Put on it. -/
theorem One.put (h : One W0 W B gf F vo out Sf So) {F' : Dc} {vx : Value} {x : List Int} {Sd Sx : Nat → Prop} (p : PSt W B gf Sf W1 F' vx x Sd Sx) :
    One W0 W1 B gf F' vo out (fun k => Sd k ∧ k < W1.heap.size) (fun k => So k ∧ k < W.heap.size) ∧ (∀ k, k < W.heap.size → Sx k → False) := by
  have hso : ∀ k, So k ∧ k < W.heap.size → W1.heap[k]? = W.heap[k]? := fun k hk => p.kept.2 k hk.2 (fun e => e.elim (fun e => by have := h.so k hk.1; have := h.glt; omega) (fun e => h.dis k e hk.1))
  refine ⟨⟨p.dc.bound, Kd.R_move (Kd.R_mono (Kd.R_bound h.out) (fun k hk => ⟨hk.1, hk.2.2.1⟩)) (fun k hk => hso k hk), ?_, ?_, fun k hk => h.so k hk.1, h.below.trans p.below, ?_, h.glt⟩, fun k hk hs => by have := p.so k hs; omega⟩
  · intro k h1 h2
    exact (p.sd k h1.1).elim (fun e => h.dis k e h2.1) (fun e => by have := h2.2; omega)
  · intro k hk
    exact (p.sd k hk.1).elim (fun e => h.sf k e) (fun e => Nat.le_trans h.kept.1 e)
  · refine ⟨Nat.le_trans h.kept.1 p.kept.1, fun i hi hs => (p.kept.2 i (Nat.lt_of_lt_of_le hi h.kept.1) (fun e => e.elim (fun e => hs e) (fun e => by have := h.sf i e; omega))).trans (h.kept.2 i hi hs)⟩
/-- What was handed out has grown. -/
theorem One.append (h : One W0 W B gf F vo out Sf So) {v1 : Value} {out' : List Int} (hs : ∀ k, Sf k → k < W.heap.size) (hR : Kd.R (Kd.int .u8) 5 W1 B (fun k => So k ∨ W.heap.size ≤ k) v1 out') (hB : Below B W0 W1) (hg : W.grownBy W1 vo.ownBlock) :
    One W0 W1 B gf F v1 out' Sf (fun k => So k ∨ W.heap.size ≤ k) := by
  have hown : ∀ k, vo.ownBlock = some k → So k := h.out.1
  refine ⟨?_, hR, fun k h1 h2 => h2.elim (h.dis k h1) (fun e => by have := hs k h1; omega), h.sf, fun k hk => hk.elim (h.so k) (fun e => Nat.le_trans h.kept.1 e), hB, ?_, h.glt⟩
  · exact h.dc.move fun k hk e => hg.block k hk (fun e2 => by
      have := hown k e2.symm
      exact e.elim (fun e => by have := h.so k this; have := h.glt; omega) (fun e => h.dis k e this))
  · refine ⟨Nat.le_trans h.kept.1 hg.size, fun i hi hne => (hg.block i (Nat.lt_of_lt_of_le hi h.kept.1) (fun e => by have := h.so i (hown i e.symm); omega)).trans (h.kept.2 i hi hne)⟩
theorem One.step_below (h : One W0 W B gf F vo out Sf So) (hb : Below W.heap.size W W1) : One W0 W1 B gf F vo out Sf So :=
  ⟨h.dc.below hb, Kd.R_below h.out hb, h.dis, h.sf, h.so, below_then h.below h.dc.le hb, kept_below h.kept hb, h.glt⟩
end
end Go.Proofs.YtebjfgkgfgbndaaDoor
