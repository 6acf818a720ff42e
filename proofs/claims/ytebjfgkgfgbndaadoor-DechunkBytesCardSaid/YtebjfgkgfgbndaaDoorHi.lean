/- What holds midway in the chunked decoder's Put: the decoder, and the data that it hands out. -/
import Derived.Test.YtebjfgkgfgbndaaDoorHh
namespace Go.Proofs.YtebjfgkgfgbndaaDoor
open Go.RowKit Go.Proofs.YtebjfgkgfgbndaaDoorW.PrintWords Go.Proofs.YtebjfgkgfgbndaaDoorW.PrintLast Go.Proofs.YtebjfgkgfgbndaaDoorW.PrintMore
open PBodyScans
set_option linter.unusedVariables false
set_option linter.unusedSimpArgs false

structure PSt (w : World) (B g : Nat) (S : Nat → Prop) (W : World) (dr : Dc) (vo : Value) (out : List Int) (Sd So : Nat → Prop) : Prop where
  dc : DcAt W B g Sd dr
  out : Kd.R (Kd.int .u8) 5 W B So vo out
  dis : ∀ k, Sd k → So k → False
  sd : ∀ k, Sd k → S k ∨ w.heap.size ≤ k
  so : ∀ k, So k → w.heap.size ≤ k
  below : Below B w W
  kept : Kept w W (fun k => k = g ∨ S k)
  glt : g < w.heap.size

section
variable {w W W' : World} {B g : Nat} {S Sd So : Nat → Prop} {dr : Dc} {vo : Value} {out : List Int}
theorem PSt.start (h : DcAt w B g S dr) : PSt w B g S w dr (.slice none 0 0) [] S (fun _ => False) :=
  ⟨h, Kd.R_nil _ _ _ _ _, fun _ _ h => h, fun _ h => .inl h, fun _ h => h.elim, Below.refl _ _, Kept.refl _ _, h.lt⟩
theorem PSt.step_below (p : PSt w B g S W dr vo out Sd So) (hb : Below W.heap.size W W') : PSt w B g S W' dr vo out Sd So :=
  ⟨p.dc.below hb, Kd.R_below p.out hb, p.dis, p.sd, p.so, below_then p.below p.dc.le hb, kept_below p.kept hb, p.glt⟩
theorem PSt.drawn (p : PSt w B g S W dr vo out Sd So) (n : Nat) : PSt w B g S (W.drewN n) dr vo out Sd So := p.step_below (Drawn0.below ⟨n, rfl⟩)
theorem PSt.gout (p : PSt w B g S W dr vo out Sd So) : ∀ k, So k → k ≠ g := fun k hk e => by have := p.so k hk; have := p.glt; omega
theorem PSt.setc (p : PSt w B g S W dr vo out Sd So) {d' : Dc} (j : Nat) (v : Value) (hl : d'.line = dr.line) (hf : d'.fields = dr.fields)
    (hv : ∀ vl vf, (dcCells dr vl vf).setIfInBounds j v = dcCells d' vl vf) : PSt w B g S (W.setCell ⟨g, j, none⟩ v) d' vo out Sd So :=
  ⟨p.dc.setc j v hl hf hv, Kd.R_far (p := ⟨g, j, none⟩) p.out p.gout v, p.dis, p.sd, p.so, p.below.setCell (p := ⟨g, j, none⟩) p.dc.1 v, kept_set p.kept (.inl rfl) j v, p.glt⟩
theorem PSt.vars (p : PSt w B g S W dr vo out Sd So) (hv : Vars w) (hB : 2 ≤ B) : Vars W :=
  ⟨(p.below.block 0 (by omega)).trans hv.1, hv.2.imp fun _ hm => (p.below.cell (p := ⟨1, 0, none⟩) (by simp; omega)).trans hm⟩
/-- A call of a method. -/
theorem PSt.method (p : PSt w B g S W dr vo out Sd So) {d' : Dc} (m : Mid W B g Sd d' W') : PSt w B g S W' d' vo out (fun k => Sd k ∨ W.heap.size ≤ k) (fun k => So k ∧ k < W.heap.size) := by
  refine ⟨m.1, ?_, fun k h1 h2 => h1.elim (fun h => p.dis k h h2.1) (fun h => by have := h2.2; omega), fun k h => h.elim (p.sd k) (fun h => .inr (Nat.le_trans p.kept.1 h)), fun k h => p.so k h.1, p.below.trans m.2.1, ?_, p.glt⟩
  · refine Kd.R_move (Kd.R_mono (Kd.R_bound p.out) (fun k hk => ⟨hk.1, hk.2.2.1⟩)) (fun k hk => m.2.2.2 k hk.2 (fun e => e.elim (fun e => p.gout k hk.1 e) (fun e => p.dis k e hk.1)))
  · refine ⟨Nat.le_trans p.kept.1 m.2.2.1, fun i hi hs => (m.2.2.2 i (Nat.lt_of_lt_of_le hi p.kept.1) (fun e => e.elim (fun e => hs (.inl e)) (fun e => (p.sd i e).elim (fun e => hs (.inr e)) (fun e => by omega)))).trans (p.kept.2 i hi hs)⟩
/-- Data have been appended. -/
theorem PSt.append (p : PSt w B g S W dr vo out Sd So) {v1 : Value} {out' : List Int} (hR : Kd.R (Kd.int .u8) 5 W' B (fun k => So k ∨ W.heap.size ≤ k) v1 out') (hB : Below B w W') (hg : W.grownBy W' vo.ownBlock) :
    PSt w B g S W' dr v1 out' (fun k => Sd k ∧ k < W.heap.size) (fun k => So k ∨ W.heap.size ≤ k) := by
  have hown : ∀ k, vo.ownBlock = some k → So k := p.out.1
  refine ⟨?_, hR, fun k h1 h2 => h2.elim (p.dis k h1.1) (fun h => by have := h1.2; omega), fun k h => p.sd k h.1, fun k h => h.elim (p.so k) (fun h => Nat.le_trans p.kept.1 h), hB, ?_, p.glt⟩
  · have hne : ∀ k, k < W.heap.size → k = g ∨ Sd k → W'.heap[k]? = W.heap[k]? := fun k hk h => hg.block k hk (fun e => by
      have hs := hown k e.symm
      exact h.elim (fun e => p.gout k hs e) (fun h => p.dis k h hs))
    have hlt := p.dc.lt
    obtain ⟨h0, vl, vf, h1, h2, h3⟩ := p.dc
    have hb2 := Kd.R_bound h2
    have hb3 := Kd.R_bound h3
    exact ⟨h0, vl, vf, (hne g hlt (.inl rfl)).trans h1, Kd.R_move (Kd.R_mono hb2 (fun k hk => ⟨hk.1, hk.2.2.1⟩)) (fun k hk => hne k hk.2 (.inr hk.1)), Kd.R_move (Kd.R_mono hb3 (fun k hk => ⟨hk.1, hk.2.2.1⟩)) (fun k hk => hne k hk.2 (.inr hk.1))⟩
  · refine ⟨Nat.le_trans p.kept.1 hg.size, fun i hi hs => (hg.block i (Nat.lt_of_lt_of_le hi p.kept.1) (fun e => ?_)).trans (p.kept.2 i hi hs)⟩
    have := p.so i (hown i e.symm)
    omega
theorem PSt.reads (p : PSt w B g S W dr vo out Sd So) {A : Option Addr} {n : Nat} {b : List Int} (h : ReadsInt w .u8 A n b) (hA : ∀ ad, A = some ad → 0 < n → ad.block ≠ g ∧ ¬ S ad.block) : ReadsInt W .u8 A n b := by
  refine ⟨h.1, h.2.1, fun hn => ?_⟩
  obtain ⟨ad, e, hc⟩ := h.2.2 hn
  obtain ⟨h1, h2⟩ := hA ad e hn
  refine ⟨ad, e, fun j hj => ?_⟩
  have hblk : (ad.add j).block = ad.block := by unfold Addr.add; split <;> rfl
  have hlt := World.block_lt_of_cell? w _ (hc j hj)
  exact (World.cell?_of_block (p.kept.2 _ hlt (by rw [hblk]; rintro (e | e); exact h1 e; exact h2 e))).trans (hc j hj)
end

/-- The loop of Put. -/
def putG (b : List Int) : Nat → Dc → Int → List Int → Option (Dc × Int × List Int)
  | 0, _, _, _ => none
  | k + 1, d, n, out =>
    if n < (b.length : Int) then
      (if d.e = 0 then
        (if d.place ≠ 11 then
          (if d.place = 3 then
            putG b k { d with n := d.n - min d.n ((b.length : Int) - n), place := if d.n - min d.n ((b.length : Int) - n) = 0 then 4 else 3 } (n + min d.n ((b.length : Int) - n)) (out ++ (b.take (n + min d.n ((b.length : Int) - n)).toNat).drop n.toNat)
           else if (dStep d (rd b n)).2 = 0 then putG b k { (dStep d (rd b n)).1 with e := 0 } (n + 1) out
           else putG b k { (dStep d (rd b n)).1 with e := (dStep d (rd b n)).2 } n out)
         else some (d, n, out))
       else some (d, n, out))
    else some (d, n, out)
end Go.Proofs.YtebjfgkgfgbndaaDoor
