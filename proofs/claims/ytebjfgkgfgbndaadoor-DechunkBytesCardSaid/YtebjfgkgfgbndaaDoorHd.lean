/- The chunked decoder's method more (a byte appended to the line): a contract (walk) over this seat's translation. -/
import Derived.Test.YtebjfgkgfgbndaaDoorHc
namespace Go.Proofs.YtebjfgkgfgbndaaDoor
open Go.RowKit Go.Proofs.YtebjfgkgfgbndaaDoorW.PrintWords Go.Proofs.YtebjfgkgfgbndaaDoorW.PrintLast Go.Proofs.YtebjfgkgfgbndaaDoorW.PrintMore
open PBodyScans
set_option linter.unusedVariables false
set_option linter.unusedSimpArgs false

/-- A decoder with its rows' own values told. -/
def DcRaw (w : World) (B g : Nat) (S : Nat → Prop) (d : Dc) (vl vf : Value) : Prop :=
  B ≤ g ∧ w.heap[g]? = some (.cells (dcCells d vl vf) 100 (0, 0)) ∧ Kd.R (Kd.int .u8) 5 w B S vl d.line ∧ Kd.R k53 53 w B S vf d.fields
theorem DcRaw.at {w : World} {B g : Nat} {S : Nat → Prop} {d : Dc} {vl vf : Value} (h : DcRaw w B g S d vl vf) : DcAt w B g S d := ⟨h.1, vl, vf, h.2⟩
theorem DcAt.raw {w : World} {B g : Nat} {S : Nat → Prop} {d : Dc} (h : DcAt w B g S d) : ∃ vl vf, DcRaw w B g S d vl vf := by
  obtain ⟨h0, vl, vf, h⟩ := h
  exact ⟨vl, vf, h0, h⟩
theorem DcRaw.get_line {w : World} {B g : Nat} {S : Nat → Prop} {d : Dc} {vl vf : Value} (h : DcRaw w B g S d vl vf) : w.cell? ⟨g, 8, none⟩ = some vl := by simp [World.cell?, h.2.1, dcCells]
theorem DcRaw.get_fields {w : World} {B g : Nat} {S : Nat → Prop} {d : Dc} {vl vf : Value} (h : DcRaw w B g S d vl vf) : w.cell? ⟨g, 9, none⟩ = some vf := by simp [World.cell?, h.2.1, dcCells]
theorem DcRaw.mono {w : World} {B g : Nat} {S S' : Nat → Prop} {d : Dc} {vl vf : Value} (h : DcRaw w B g S d vl vf) (hs : ∀ k, S k → S' k) : DcRaw w B g S' d vl vf := ⟨h.1, h.2.1, Kd.R_mono h.2.2.1 hs, Kd.R_mono h.2.2.2 hs⟩
theorem DcRaw.below {w w1 : World} {B g : Nat} {S : Nat → Prop} {d : Dc} {vl vf : Value} (h : DcRaw w B g S d vl vf) (hb : Below w.heap.size w w1) : DcRaw w1 B g S d vl vf :=
  ⟨h.1, (hb.block g (Array.getElem?_eq_some_iff.1 h.2.1).1).trans h.2.1, Kd.R_below h.2.2.1 hb, Kd.R_below h.2.2.2 hb⟩
theorem DcRaw.drawn {w : World} {B g : Nat} {S : Nat → Prop} {d : Dc} {vl vf : Value} (h : DcRaw w B g S d vl vf) (n : Nat) : DcRaw (w.drewN n) B g S d vl vf := h.below (Drawn0.below ⟨n, rfl⟩)
theorem DcRaw.setc {w : World} {B g : Nat} {S : Nat → Prop} {d d' : Dc} {vl vf : Value} (h : DcRaw w B g S d vl vf) (j : Nat) (v : Value) (hl : d'.line = d.line) (hf : d'.fields = d.fields)
    (hv : (dcCells d vl vf).setIfInBounds j v = dcCells d' vl vf) : DcRaw (w.setCell ⟨g, j, none⟩ v) B g S d' vl vf := by
  obtain ⟨h0, h1, h2, h3⟩ := h
  refine ⟨h0, ?_, ?_, ?_⟩
  · show (w.heap.modify g _)[g]? = _
    obtain ⟨hlt, he⟩ := Array.getElem?_eq_some_iff.1 h1
    rw [Array.getElem?_eq_getElem (by rw [Array.size_modify]; exact hlt), Array.getElem_modify_self, he]
    simp only [Option.isSome_none, Bool.false_eq_true, if_false, hv]
  · rw [hl]; exact Kd.R_set h2 h1 (by simp [Kd.int, Kd.scalar]) j v
  · rw [hf]; exact Kd.R_set h3 h1 (by simp [k53, Kd.iso, Kd.pair, Kd.string, Kd.scalar]) j v
/-- The line has grown by an append, and is laid back. -/
theorem Mid.appended {w W w1 : World} {B g : Nat} {S : Nat → Prop} {d : Dc} (M : Mid w B g S d W) {vl vf v1 : Value} {l' : List Int} (hraw : DcRaw W B g (fun k => S k ∨ w.heap.size ≤ k) d vl vf)
    (hR : Kd.R (Kd.int .u8) 5 w1 B (fun k => S k ∨ w.heap.size ≤ k) v1 l') (hB : Below B w w1) (hgr : W.grownBy w1 vl.ownBlock) : Mid w B g S { d with line := l' } (w1.setCell ⟨g, 8, none⟩ v1) := by
  obtain ⟨_, hg, hl, hf⟩ := hraw
  have hlt : g < W.heap.size := (Array.getElem?_eq_some_iff.1 hg).1
  have hne : some g ≠ vl.ownBlock := Kd.R_ne hl hg (by decide)
  have hg1 : w1.heap[g]? = some (.cells (dcCells d vl vf) 100 (0, 0)) := (hgr.block g hlt hne).trans hg
  have hlt1 : g < w1.heap.size := (Array.getElem?_eq_some_iff.1 hg1).1
  have hf1 : Kd.R k53 53 w1 B (fun k => S k ∨ w.heap.size ≤ k) vf d.fields := by
    refine Kd.R_mono (Kd.R_grown (Kd.R_bound hf) hgr (fun k hk e => ?_)) (fun _ hk => hk.1)
    obtain ⟨_, _, _, q, hq, cells, hc⟩ := hk
    obtain ⟨inner, ho⟩ := Kd.R_own hl
    obtain ⟨cells', hc'⟩ := own_typed ho k e.symm
    rw [hc] at hc'
    injection hc' with hc'
    injection hc' with _ ht
    have hq' : q = 53 := by simpa [k53, Kd.iso, Kd.pair, Kd.string, Kd.scalar] using hq
    exact absurd (hq'.symm.trans ht) (by decide)
  have hset : (w1.setCell ⟨g, 8, none⟩ v1).heap[g]? = some (.cells (dcCells { d with line := l' } v1 vf) 100 (0, 0)) := by
    show (w1.heap.modify g _)[g]? = _
    rw [Array.getElem?_eq_getElem (by rw [Array.size_modify]; exact hlt1), Array.getElem_modify_self]
    obtain ⟨_, he⟩ := Array.getElem?_eq_some_iff.1 hg1
    rw [he]
    rfl
  refine ⟨⟨M.1.1, v1, vf, hset, Kd.R_set hR hg1 (by simp [Kd.int, Kd.scalar]) 8 v1, Kd.R_set hf1 hg1 (by simp [k53, Kd.iso, Kd.pair, Kd.string, Kd.scalar]) 8 v1⟩, hB.setCell (p := ⟨g, 8, none⟩) M.1.1 _, ?_⟩
  refine kept_set ⟨Nat.le_trans M.2.2.1 hgr.size, fun i hi hs => ?_⟩ (.inl rfl) 8 _
  refine (hgr.block i (Nat.lt_of_lt_of_le hi M.2.2.1) (fun e => ?_)).trans (M.2.2.2 i hi hs)
  exact (hl.1 i e.symm).elim (fun h => hs (.inr h)) (fun h => by omega)

section
variable {P : Program} {ops : Array Oper} {rest : List Oper} {o : Oper} {a : Act} {Q : Exit → Act → World → Prop} {α : Type}
/-- append(v, x), the box's place told. -/
theorem R_append_at (d : Kd α) {w0 W : World} (base : Nat) (hgd : o.guard = none) (s x : Operand) (t e : TypeId) (z : Value) (bytes : Nat)
    (ho : o.op = .call { callee := .builtin .append, args := #[s, x], argTypes := #[t, t] })
    (ht : P.underlying t = some (.slice e)) (hinfo : (P.info? e).map (fun i => (i.zero, i.size, i.bytes)) = some (some z, d.sz, bytes)) (hz : z.cells.size = d.sz) (hs0 : 0 < d.sz) (hb0 : 0 < bytes)
    (v : Value) (xs : List α) (p : α) (cs : List Value) (ok okp : Nat → Prop) (H : Nat) (hs : a.eval s = v) (hx : a.eval x = .slice (some ⟨H, 0, none⟩) 1 1) (hH : W.heap.size = H) (hp : d.M W base okp p cs) (hokp : ∀ k, okp k → ok k ∧ some k ≠ v.ownBlock) (hfresh : ∀ k, W.heap.size ≤ k → ok k)
    (HO : d.R e W base ok v xs) (HB : Below base w0 W) (hbase : base ≤ W.heap.size) (hl : (xs.length + 1) * bytes ≤ 140737488355328)
    (h : ∀ v1 w1, d.R e w1 base ok v1 (xs ++ [p]) → Below base w0 w1 → W.grownBy w1 v.ownBlock → (v1.ownBlock = v.ownBlock ∨ ∃ b, v1.ownBlock = some b ∧ W.heap.size ≤ b) → wpList P ops Q rest (a.put o.dst v1) w1) :
    wpList P ops Q (o :: rest) a (W.alloc (.cells cs.toArray e)) := by
  subst hH
  exact Kd.R_append d base hgd s x t e z bytes ho ht hinfo hz hs0 hb0 v xs p cs ok okp hs hx hp hokp hfresh HO HB hbase hl h
end

theorem DcRaw.grown {w w1 : World} {B g : Nat} {S : Nat → Prop} {d : Dc} {vl vf : Value} (h : DcRaw w B g S d vl vf) (hgr : w.grownBy w1 vl.ownBlock) :
    w1.heap[g]? = some (.cells (dcCells d vl vf) 100 (0, 0)) := (hgr.block g (Array.getElem?_eq_some_iff.1 h.2.1).1 (Kd.R_ne h.2.2.1 h.2.1 (by decide))).trans h.2.1
theorem R_form {α : Type} {d : Kd α} {e : Nat} {w : World} {base : Nat} {ok : Nat → Prop} {v : Value} {xs : List α} (h : d.R e w base ok v xs) : ∃ A n c, v = .slice A n c := by
  obtain ⟨A, c, he⟩ := Kd.R_slice h
  exact ⟨A, _, c, he⟩

def dMore (d : Dc) (c p : Int) : Dc × Int := if d.size ≥ d.byts then (d, 5) else ({ d with size := d.size + 1, line := d.line ++ [c], place := p }, 0)

set_option maxRecDepth 100000 in
theorem more_no {B g : Nat} {S : Nat → Prop} {d : Dc} {w : World} (h : DcAt w B g S d) (c p : Int) (hs : d.size ≥ d.byts) :
    Calls Tryd.prog 102 #[.pointer (some ⟨g, 0, none⟩), .int .u8 c, .int .i64 p] w (MPost w B g S (d, 5)) := by
  have M := Aside0.mk (Mid.start h)
  have c7 := h.get_size
  have c2 := h.get_byts
  have b : decide (d.byts ≤ d.size) = true := decide_eq_true hs
  clear h hs
  go_enter Tryd.func102, Tryd.ntmps102
  go_wp2_with fail
  repeat (go_quiet (fail); try go_wp2_with fail)
  go_ret
  exact ⟨rfl, M.out.drawn _⟩

set_option maxHeartbeats 1000000 in
set_option maxRecDepth 100000 in
theorem more_yes {B g : Nat} {S : Nat → Prop} {d : Dc} {w : World} (h : DcAt w B g S d) (hok : DcOk d) (c p : Int) (hs : ¬ d.size ≥ d.byts) :
    Calls Tryd.prog 102 #[.pointer (some ⟨g, 0, none⟩), .int .u8 c, .int .i64 p] w (MPost w B g S ({ d with size := d.size + 1, line := d.line ++ [c], place := p }, 0)) := by
  obtain ⟨vl, vf, hraw⟩ := h.raw
  have M := Aside0.mk (Mid.start h)
  have R := Aside0.mk (hraw.mono (S' := fun k => S k ∨ w.heap.size ≤ k) fun _ hs => .inl hs)
  have c7 := h.get_size
  have c2 := h.get_byts
  have c8 := hraw.get_line
  have f7 := h.frozen 7
  have b : decide (d.byts ≤ d.size) = false := decide_eq_false hs
  have e0 := hok.size0
  have e1 := hok.size1
  have HL := Aside0.mk hok.len
  have HB := Aside0.mk hok.byts1
  clear h hs hok hraw
  go_enter Tryd.func102, Tryd.ntmps102
  go_wp2_with fail
  go_quiet (fail)
  have M1 := Aside0.mk ((M.out.drawn nq).set_size (d.size + 1))
  have HSZ : Aside0 (((w.drewN nq).setCell ⟨g, 7, none⟩ (.int .i64 (d.size + 1))).heap.size = w.heap.size) := ⟨by simp⟩
  have HLL : Aside0 ((d.line.length + 1) * 1 ≤ 140737488355328) := ⟨by have := HL.out; omega⟩
  have R1 := Aside0.mk ((R.out.drawn nq).setc (d' := { d with size := d.size + 1 }) 7 (.int .i64 (d.size + 1)) rfl rfl rfl)
  go_wp2_with ((with_reducible refine gate_builtin (b := .append) (xs := #[.tmp 28, .tmp 30]) rfl ?_); at_builtin; (refine R_append_at (Kd.int .u8) (w0 := w) B rfl (.tmp 28) (.tmp 30) 24 5 (.int .u8 0) 1 rfl Tryd.underlying24 info5 rfl (by decide) (by decide) vl d.line c [.int .u8 c] (fun k => S k ∨ w.heap.size ≤ k) (fun _ => False) w.heap.size rfl rfl HSZ.out rfl (fun _ h => h.elim) (fun k hk => .inr (Nat.le_trans M1.out.2.2.1 hk)) R1.out.2.2.1 M1.out.2.1 M1.out.le HLL.out ?_); intro v1 w1 hR1 hB1 hg1 hat1; obtain ⟨A1, n1, k1, rfl⟩ := R_form hR1; have M2 := Aside0.mk (M1.out.appended R1.out hR1 hB1 hg1); have hb1 := R1.out.grown hg1; have q8 : w1.cell? ⟨g, 8, none⟩ = some vl := (by simp [World.cell?, hb1, dcCells]); have q3 : w1.cell? ⟨g, 3, none⟩ = some (.int .i64 d.place) := (by simp [World.cell?, hb1, dcCells]); have p8 : w1.frozen? ⟨g, 8, none⟩ = false := (by simp [World.frozen?, hb1]); have p3 : w1.frozen? ⟨g, 3, none⟩ = false := (by simp [World.frozen?, hb1]); clear hR1 hB1 hg1 hat1 hb1 R1 M1)
  go_ret
  exact ⟨rfl, M2.out.set_place p⟩
end Go.Proofs.YtebjfgkgfgbndaaDoor
