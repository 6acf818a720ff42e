/- The chunked decoder's state in memory, and its methods to, closed, finish, again, begun, extended, digit: contracts (walks) over this seat's translation. -/
import Derived.Test.YtebjfgkgfgbndaaDoorHb
namespace Go.Proofs.YtebjfgkgfgbndaaDoor
open Go.RowKit Go.Proofs.YtebjfgkgfgbndaaDoorW.PrintWords Go.Proofs.YtebjfgkgfgbndaaDoorW.PrintLast Go.Proofs.YtebjfgkgfgbndaaDoorW.PrintMore
open PBodyScans
set_option linter.unusedVariables false
set_option linter.unusedSimpArgs false

def lowC (c : Int) : Int := Go.bits .or .u8 c 32
def digV (c : Int) : Int := if 48 ≤ c ∧ c ≤ 57 then c - 48 else if 97 ≤ lowC c ∧ lowC c ≤ 102 then lowC c - 87 else -1
theorem digV_range (c : Int) : -1 ≤ digV c ∧ digV c ≤ 15 := by
  unfold digV
  split
  · omega
  · split <;> omega
theorem digV_f (c : Int) : hexa_Digit.f 1 c = some (digV c) := by
  unfold hexa_Digit.f digV
  simp only [hexa_Digit.j0]
  have e : Go.bits .or .u8 c 32 = lowC c := rfl
  rw [e]
  generalize lowC c = b
  by_cases h1 : c ≥ 48 <;> by_cases h2 : c ≤ 57 <;> by_cases h3 : b ≥ 97 <;> by_cases h4 : b ≤ 102 <;>
    simp [h1, h2, h3, h4] <;> omega

def moreN (n c : Int) : Int × Int := if digV c < 0 then (0, 2) else if n > (4611686018427387903 - digV c) / 16 then (0, 3) else (16 * n + digV c, 0)
theorem u64_in (x : Int) (h0 : 0 ≤ x) (h1 : x < 18446744073709551616) : IntKind.u64.wrap x = x := by
  show x % 18446744073709551616 = x
  omega
theorem more_f (n c : Int) (h0 : 0 ≤ n) (h1 : n ≤ 4611686018427387903) : hexa_More.f 1 n c = some (moreN n c) := by
  have hr := digV_range c
  unfold hexa_More.f moreN
  rw [digV_f]
  simp only [Option.bind_some]
  by_cases h : digV c < 0
  · rw [if_pos h, if_pos h]
  · rw [if_neg h, if_neg h]
    rw [u64_in (digV c) (by omega) (by omega), u64_in (4611686018427387903 - digV c) (by omega) (by omega), Int.tdiv_eq_ediv_of_nonneg (by omega), u64_in ((4611686018427387903 - digV c) / 16) (by omega) (by omega)]
    by_cases h2 : n > (4611686018427387903 - digV c) / 16
    · rw [if_pos h2, if_pos h2]
    · rw [if_neg h2, if_neg h2, u64_in (16 * n) (by omega) (by omega), u64_in (16 * n + digV c) (by omega) (by omega)]

/-- A decoder's fields. -/
structure Dc where
  ext : Int
  flds : Int
  byts : Int
  place : Int
  n : Int
  count : Int
  lines : Int
  size : Int
  line : List Int
  fields : List S53
  taken : Int
  given : Int
  e : Int

def dcCells (d : Dc) (vl vf : Value) : Array Value := #[.int .i64 d.ext, .int .i64 d.flds, .int .i64 d.byts, .int .i64 d.place, .int .u64 d.n, .int .i64 d.count, .int .i64 d.lines, .int .i64 d.size, vl, vf, .int .i64 d.taken, .int .i64 d.given, .int .i64 d.e]

/-- In block g lies a decoder d; its rows lie from B on, in blocks of S. -/
def DcAt (w : World) (B g : Nat) (S : Nat → Prop) (d : Dc) : Prop :=
  B ≤ g ∧ ∃ vl vf, w.heap[g]? = some (.cells (dcCells d vl vf) 100 (0, 0)) ∧ Kd.R (Kd.int .u8) 5 w B S vl d.line ∧ Kd.R k53 53 w B S vf d.fields

theorem DcAt.lt {w : World} {B g : Nat} {S : Nat → Prop} {d : Dc} (h : DcAt w B g S d) : g < w.heap.size := by
  obtain ⟨_, _, _, h, _⟩ := h
  exact (Array.getElem?_eq_some_iff.1 h).1
theorem DcAt.le {w : World} {B g : Nat} {S : Nat → Prop} {d : Dc} (h : DcAt w B g S d) : B ≤ w.heap.size := Nat.le_trans h.1 (Nat.le_of_lt h.lt)
theorem DcAt.frozen {w : World} {B g : Nat} {S : Nat → Prop} {d : Dc} (h : DcAt w B g S d) (j : Nat) : w.frozen? ⟨g, j, none⟩ = false := by
  obtain ⟨_, _, _, h, _⟩ := h
  simp [World.frozen?, h]
theorem DcAt.mono {w : World} {B g : Nat} {S S' : Nat → Prop} {d : Dc} (h : DcAt w B g S d) (hs : ∀ k, S k → S' k) : DcAt w B g S' d := by
  obtain ⟨h0, vl, vf, h1, h2, h3⟩ := h
  exact ⟨h0, vl, vf, h1, Kd.R_mono h2 hs, Kd.R_mono h3 hs⟩
/-- What is neither the decoder nor a block of its rows may turn. -/
theorem DcAt.move {w w1 : World} {B g : Nat} {S : Nat → Prop} {d : Dc} (h : DcAt w B g S d) (hm : ∀ k, k < w.heap.size → k = g ∨ S k → w1.heap[k]? = w.heap[k]?) : DcAt w1 B g S d := by
  have hlt := h.lt
  obtain ⟨h0, vl, vf, h1, h2, h3⟩ := h
  exact ⟨h0, vl, vf, (hm g hlt (.inl rfl)).trans h1, Kd.R_step h2 (fun k hk hl => hm k hl (.inr hk)), Kd.R_step h3 (fun k hk hl => hm k hl (.inr hk))⟩
theorem DcAt.below {w w1 : World} {B g : Nat} {S : Nat → Prop} {d : Dc} (h : DcAt w B g S d) (hb : Below w.heap.size w w1) : DcAt w1 B g S d := h.move fun k hk _ => hb.block k hk
/-- A store into the decoder's own block. -/
theorem DcAt.setc {w : World} {B g : Nat} {S : Nat → Prop} {d d' : Dc} (h : DcAt w B g S d) (j : Nat) (v : Value) (hl : d'.line = d.line) (hf : d'.fields = d.fields)
    (hv : ∀ vl vf, (dcCells d vl vf).setIfInBounds j v = dcCells d' vl vf) : DcAt (w.setCell ⟨g, j, none⟩ v) B g S d' := by
  obtain ⟨h0, vl, vf, h1, h2, h3⟩ := h
  refine ⟨h0, vl, vf, ?_, ?_, ?_⟩
  · show (w.heap.modify g _)[g]? = _
    obtain ⟨hlt, he⟩ := Array.getElem?_eq_some_iff.1 h1
    rw [Array.getElem?_eq_getElem (by rw [Array.size_modify]; exact hlt), Array.getElem_modify_self, he]
    simp only [Option.isSome_none, Bool.false_eq_true, if_false, hv]
  · rw [hl]; exact Kd.R_set h2 h1 (by simp [Kd.int, Kd.scalar]) j v
  · rw [hf]; exact Kd.R_set h3 h1 (by simp [k53, Kd.iso, Kd.pair, Kd.string, Kd.scalar]) j v
theorem kept_set {w : World} {W : World} {S : Nat → Prop} (h : Kept w W S) {g : Nat} (hg : S g) (j : Nat) (v : Value) : Kept w (W.setCell ⟨g, j, none⟩ v) S := by
  refine ⟨?_, fun i hi hs => ?_⟩
  · show w.heap.size ≤ (W.heap.modify g _).size
    rw [Array.size_modify]; exact h.1
  · exact (Below.heap_setCell W ⟨g, j, none⟩ v i (fun e => hs (by rw [e]; exact hg))).trans (h.2 i hi hs)
theorem kept_below {w w1 w2 : World} {S : Nat → Prop} (h : Kept w w1 S) (hb : Below w1.heap.size w1 w2) : Kept w w2 S :=
  ⟨Nat.le_trans h.1 hb.size, fun i hi hs => (hb.block i (Nat.lt_of_lt_of_le hi h.1)).trans (h.2 i hi hs)⟩
theorem kept_of_below {w w1 : World} (S : Nat → Prop) (hb : Below w.heap.size w w1) : Kept w w1 S := ⟨hb.size, fun i hi _ => hb.block i hi⟩

theorem DcAt.set_ext {w : World} {B g : Nat} {S : Nat → Prop} {d : Dc} (h : DcAt w B g S d) (x : Int) : DcAt (w.setCell ⟨g, 0, none⟩ (.int .i64 x)) B g S { d with ext := x } := h.setc 0 _ rfl rfl (fun _ _ => rfl)
theorem DcAt.get_ext {w : World} {B g : Nat} {S : Nat → Prop} {d : Dc} (h : DcAt w B g S d) : w.cell? ⟨g, 0, none⟩ = some (.int .i64 d.ext) := by
  obtain ⟨_, _, _, h, _⟩ := h
  simp [World.cell?, h, dcCells]
theorem DcAt.set_flds {w : World} {B g : Nat} {S : Nat → Prop} {d : Dc} (h : DcAt w B g S d) (x : Int) : DcAt (w.setCell ⟨g, 1, none⟩ (.int .i64 x)) B g S { d with flds := x } := h.setc 1 _ rfl rfl (fun _ _ => rfl)
theorem DcAt.get_flds {w : World} {B g : Nat} {S : Nat → Prop} {d : Dc} (h : DcAt w B g S d) : w.cell? ⟨g, 1, none⟩ = some (.int .i64 d.flds) := by
  obtain ⟨_, _, _, h, _⟩ := h
  simp [World.cell?, h, dcCells]
theorem DcAt.set_byts {w : World} {B g : Nat} {S : Nat → Prop} {d : Dc} (h : DcAt w B g S d) (x : Int) : DcAt (w.setCell ⟨g, 2, none⟩ (.int .i64 x)) B g S { d with byts := x } := h.setc 2 _ rfl rfl (fun _ _ => rfl)
theorem DcAt.get_byts {w : World} {B g : Nat} {S : Nat → Prop} {d : Dc} (h : DcAt w B g S d) : w.cell? ⟨g, 2, none⟩ = some (.int .i64 d.byts) := by
  obtain ⟨_, _, _, h, _⟩ := h
  simp [World.cell?, h, dcCells]
theorem DcAt.set_place {w : World} {B g : Nat} {S : Nat → Prop} {d : Dc} (h : DcAt w B g S d) (x : Int) : DcAt (w.setCell ⟨g, 3, none⟩ (.int .i64 x)) B g S { d with place := x } := h.setc 3 _ rfl rfl (fun _ _ => rfl)
theorem DcAt.get_place {w : World} {B g : Nat} {S : Nat → Prop} {d : Dc} (h : DcAt w B g S d) : w.cell? ⟨g, 3, none⟩ = some (.int .i64 d.place) := by
  obtain ⟨_, _, _, h, _⟩ := h
  simp [World.cell?, h, dcCells]
theorem DcAt.set_n {w : World} {B g : Nat} {S : Nat → Prop} {d : Dc} (h : DcAt w B g S d) (x : Int) : DcAt (w.setCell ⟨g, 4, none⟩ (.int .u64 x)) B g S { d with n := x } := h.setc 4 _ rfl rfl (fun _ _ => rfl)
theorem DcAt.get_n {w : World} {B g : Nat} {S : Nat → Prop} {d : Dc} (h : DcAt w B g S d) : w.cell? ⟨g, 4, none⟩ = some (.int .u64 d.n) := by
  obtain ⟨_, _, _, h, _⟩ := h
  simp [World.cell?, h, dcCells]
theorem DcAt.set_count {w : World} {B g : Nat} {S : Nat → Prop} {d : Dc} (h : DcAt w B g S d) (x : Int) : DcAt (w.setCell ⟨g, 5, none⟩ (.int .i64 x)) B g S { d with count := x } := h.setc 5 _ rfl rfl (fun _ _ => rfl)
theorem DcAt.get_count {w : World} {B g : Nat} {S : Nat → Prop} {d : Dc} (h : DcAt w B g S d) : w.cell? ⟨g, 5, none⟩ = some (.int .i64 d.count) := by
  obtain ⟨_, _, _, h, _⟩ := h
  simp [World.cell?, h, dcCells]
theorem DcAt.set_lines {w : World} {B g : Nat} {S : Nat → Prop} {d : Dc} (h : DcAt w B g S d) (x : Int) : DcAt (w.setCell ⟨g, 6, none⟩ (.int .i64 x)) B g S { d with lines := x } := h.setc 6 _ rfl rfl (fun _ _ => rfl)
theorem DcAt.get_lines {w : World} {B g : Nat} {S : Nat → Prop} {d : Dc} (h : DcAt w B g S d) : w.cell? ⟨g, 6, none⟩ = some (.int .i64 d.lines) := by
  obtain ⟨_, _, _, h, _⟩ := h
  simp [World.cell?, h, dcCells]
theorem DcAt.set_size {w : World} {B g : Nat} {S : Nat → Prop} {d : Dc} (h : DcAt w B g S d) (x : Int) : DcAt (w.setCell ⟨g, 7, none⟩ (.int .i64 x)) B g S { d with size := x } := h.setc 7 _ rfl rfl (fun _ _ => rfl)
theorem DcAt.get_size {w : World} {B g : Nat} {S : Nat → Prop} {d : Dc} (h : DcAt w B g S d) : w.cell? ⟨g, 7, none⟩ = some (.int .i64 d.size) := by
  obtain ⟨_, _, _, h, _⟩ := h
  simp [World.cell?, h, dcCells]
theorem DcAt.set_taken {w : World} {B g : Nat} {S : Nat → Prop} {d : Dc} (h : DcAt w B g S d) (x : Int) : DcAt (w.setCell ⟨g, 10, none⟩ (.int .i64 x)) B g S { d with taken := x } := h.setc 10 _ rfl rfl (fun _ _ => rfl)
theorem DcAt.get_taken {w : World} {B g : Nat} {S : Nat → Prop} {d : Dc} (h : DcAt w B g S d) : w.cell? ⟨g, 10, none⟩ = some (.int .i64 d.taken) := by
  obtain ⟨_, _, _, h, _⟩ := h
  simp [World.cell?, h, dcCells]
theorem DcAt.set_given {w : World} {B g : Nat} {S : Nat → Prop} {d : Dc} (h : DcAt w B g S d) (x : Int) : DcAt (w.setCell ⟨g, 11, none⟩ (.int .i64 x)) B g S { d with given := x } := h.setc 11 _ rfl rfl (fun _ _ => rfl)
theorem DcAt.get_given {w : World} {B g : Nat} {S : Nat → Prop} {d : Dc} (h : DcAt w B g S d) : w.cell? ⟨g, 11, none⟩ = some (.int .i64 d.given) := by
  obtain ⟨_, _, _, h, _⟩ := h
  simp [World.cell?, h, dcCells]
theorem DcAt.set_e {w : World} {B g : Nat} {S : Nat → Prop} {d : Dc} (h : DcAt w B g S d) (x : Int) : DcAt (w.setCell ⟨g, 12, none⟩ (.int .i64 x)) B g S { d with e := x } := h.setc 12 _ rfl rfl (fun _ _ => rfl)
theorem DcAt.get_e {w : World} {B g : Nat} {S : Nat → Prop} {d : Dc} (h : DcAt w B g S d) : w.cell? ⟨g, 12, none⟩ = some (.int .i64 d.e) := by
  obtain ⟨_, _, _, h, _⟩ := h
  simp [World.cell?, h, dcCells]

/-- Midway in a decoder's method. -/
def Mid (w : World) (B g : Nat) (S : Nat → Prop) (d : Dc) (W : World) : Prop :=
  DcAt W B g (fun k => S k ∨ w.heap.size ≤ k) d ∧ Below B w W ∧ Kept w W (fun k => k = g ∨ S k)
/-- What a decoder's method leaves. -/
def MPost (w : World) (B g : Nat) (S : Nat → Prop) (r : Dc × Int) (e : Ending) (w' : World) : Prop := e = .returned (.int .i64 r.2) ∧ Mid w B g S r.1 w'
theorem Mid.start {w : World} {B g : Nat} {S : Nat → Prop} {d : Dc} (h : DcAt w B g S d) : Mid w B g S d w := ⟨h.mono fun _ hs => .inl hs, Below.refl _ _, Kept.refl _ _⟩
theorem Mid.le {w W : World} {B g : Nat} {S : Nat → Prop} {d : Dc} (h : Mid w B g S d W) : B ≤ W.heap.size := h.1.le
theorem Mid.frozen {w W : World} {B g : Nat} {S : Nat → Prop} {d : Dc} (h : Mid w B g S d W) (j : Nat) : W.frozen? ⟨g, j, none⟩ = false := h.1.frozen j
theorem Mid.below {w W W' : World} {B g : Nat} {S : Nat → Prop} {d : Dc} (h : Mid w B g S d W) (hb : Below W.heap.size W W') : Mid w B g S d W' :=
  ⟨h.1.below hb, below_then h.2.1 h.le hb, kept_below h.2.2 hb⟩
theorem Mid.drawn {w W : World} {B g : Nat} {S : Nat → Prop} {d : Dc} (h : Mid w B g S d W) (n : Nat) : Mid w B g S d (W.drewN n) := h.below (Drawn0.below ⟨n, rfl⟩)
theorem Mid.alloc {w W : World} {B g : Nat} {S : Nat → Prop} {d : Dc} (h : Mid w B g S d W) (o : Obj) : Mid w B g S d (W.alloc o) := h.below ((Below.refl _ _).alloc (Nat.le_refl _) o)
theorem Mid.vars {w W : World} {B g : Nat} {S : Nat → Prop} {d : Dc} (h : Mid w B g S d W) (hv : Vars w) (hg : 2 ≤ B) : Vars W :=
  ⟨(h.2.1.block 0 (by omega)).trans hv.1, hv.2.imp fun _ hm => (h.2.1.cell (p := ⟨1, 0, none⟩) (by simp; omega)).trans hm⟩
/-- A call of another method. -/
theorem Mid.then {w W w' : World} {B g : Nat} {S : Nat → Prop} {d : Dc} (h : Mid w B g S d W) {d' : Dc} (k : Mid W B g (fun k => S k ∨ w.heap.size ≤ k) d' w') : Mid w B g S d' w' :=
  ⟨k.1.mono fun _ hs => hs.elim id (fun hs => .inr (Nat.le_trans h.2.2.1 hs)), h.2.1.trans k.2.1,
    ⟨Nat.le_trans h.2.2.1 k.2.2.1, fun i hi hs => (k.2.2.2 i (Nat.lt_of_lt_of_le hi h.2.2.1) (fun hc => hc.elim (fun e => hs (.inl e)) (fun e => e.elim (fun e => hs (.inr e)) (fun e => by omega)))).trans (h.2.2.2 i hi hs)⟩⟩
theorem Mid.set_ext {w W : World} {B g : Nat} {S : Nat → Prop} {d : Dc} (h : Mid w B g S d W) (x : Int) : Mid w B g S { d with ext := x } (W.setCell ⟨g, 0, none⟩ (.int .i64 x)) :=
  ⟨h.1.set_ext x, h.2.1.setCell (p := ⟨g, 0, none⟩) h.1.1 _, kept_set h.2.2 (.inl rfl) 0 _⟩
theorem Mid.set_flds {w W : World} {B g : Nat} {S : Nat → Prop} {d : Dc} (h : Mid w B g S d W) (x : Int) : Mid w B g S { d with flds := x } (W.setCell ⟨g, 1, none⟩ (.int .i64 x)) :=
  ⟨h.1.set_flds x, h.2.1.setCell (p := ⟨g, 1, none⟩) h.1.1 _, kept_set h.2.2 (.inl rfl) 1 _⟩
theorem Mid.set_byts {w W : World} {B g : Nat} {S : Nat → Prop} {d : Dc} (h : Mid w B g S d W) (x : Int) : Mid w B g S { d with byts := x } (W.setCell ⟨g, 2, none⟩ (.int .i64 x)) :=
  ⟨h.1.set_byts x, h.2.1.setCell (p := ⟨g, 2, none⟩) h.1.1 _, kept_set h.2.2 (.inl rfl) 2 _⟩
theorem Mid.set_place {w W : World} {B g : Nat} {S : Nat → Prop} {d : Dc} (h : Mid w B g S d W) (x : Int) : Mid w B g S { d with place := x } (W.setCell ⟨g, 3, none⟩ (.int .i64 x)) :=
  ⟨h.1.set_place x, h.2.1.setCell (p := ⟨g, 3, none⟩) h.1.1 _, kept_set h.2.2 (.inl rfl) 3 _⟩
theorem Mid.set_n {w W : World} {B g : Nat} {S : Nat → Prop} {d : Dc} (h : Mid w B g S d W) (x : Int) : Mid w B g S { d with n := x } (W.setCell ⟨g, 4, none⟩ (.int .u64 x)) :=
  ⟨h.1.set_n x, h.2.1.setCell (p := ⟨g, 4, none⟩) h.1.1 _, kept_set h.2.2 (.inl rfl) 4 _⟩
theorem Mid.set_count {w W : World} {B g : Nat} {S : Nat → Prop} {d : Dc} (h : Mid w B g S d W) (x : Int) : Mid w B g S { d with count := x } (W.setCell ⟨g, 5, none⟩ (.int .i64 x)) :=
  ⟨h.1.set_count x, h.2.1.setCell (p := ⟨g, 5, none⟩) h.1.1 _, kept_set h.2.2 (.inl rfl) 5 _⟩
theorem Mid.set_lines {w W : World} {B g : Nat} {S : Nat → Prop} {d : Dc} (h : Mid w B g S d W) (x : Int) : Mid w B g S { d with lines := x } (W.setCell ⟨g, 6, none⟩ (.int .i64 x)) :=
  ⟨h.1.set_lines x, h.2.1.setCell (p := ⟨g, 6, none⟩) h.1.1 _, kept_set h.2.2 (.inl rfl) 6 _⟩
theorem Mid.set_size {w W : World} {B g : Nat} {S : Nat → Prop} {d : Dc} (h : Mid w B g S d W) (x : Int) : Mid w B g S { d with size := x } (W.setCell ⟨g, 7, none⟩ (.int .i64 x)) :=
  ⟨h.1.set_size x, h.2.1.setCell (p := ⟨g, 7, none⟩) h.1.1 _, kept_set h.2.2 (.inl rfl) 7 _⟩
theorem Mid.set_taken {w W : World} {B g : Nat} {S : Nat → Prop} {d : Dc} (h : Mid w B g S d W) (x : Int) : Mid w B g S { d with taken := x } (W.setCell ⟨g, 10, none⟩ (.int .i64 x)) :=
  ⟨h.1.set_taken x, h.2.1.setCell (p := ⟨g, 10, none⟩) h.1.1 _, kept_set h.2.2 (.inl rfl) 10 _⟩
theorem Mid.set_given {w W : World} {B g : Nat} {S : Nat → Prop} {d : Dc} (h : Mid w B g S d W) (x : Int) : Mid w B g S { d with given := x } (W.setCell ⟨g, 11, none⟩ (.int .i64 x)) :=
  ⟨h.1.set_given x, h.2.1.setCell (p := ⟨g, 11, none⟩) h.1.1 _, kept_set h.2.2 (.inl rfl) 11 _⟩
theorem Mid.set_e {w W : World} {B g : Nat} {S : Nat → Prop} {d : Dc} (h : Mid w B g S d W) (x : Int) : Mid w B g S { d with e := x } (W.setCell ⟨g, 12, none⟩ (.int .i64 x)) :=
  ⟨h.1.set_e x, h.2.1.setCell (p := ⟨g, 12, none⟩) h.1.1 _, kept_set h.2.2 (.inl rfl) 12 _⟩

/-- What the decoder's numbers keep. -/
structure DcOk (d : Dc) : Prop where
  ext0 : 0 ≤ d.ext
  ext1 : d.ext ≤ 65536
  flds0 : 0 ≤ d.flds
  flds1 : d.flds ≤ 65536
  byts0 : 0 ≤ d.byts
  byts1 : d.byts ≤ 65536
  n0 : 0 ≤ d.n
  n1 : d.n ≤ 4611686018427387903
  count0 : 0 ≤ d.count
  count1 : d.count ≤ 65536
  lines0 : 0 ≤ d.lines
  lines1 : d.lines ≤ 65536
  size0 : 0 ≤ d.size
  size1 : d.size ≤ 65536
  len : (d.line.length : Int) ≤ d.size
  flen : (d.fields.length : Int) ≤ d.lines

def dTo (d : Dc) (p : Int) (ok : Bool) : Dc × Int := if ok = true then ({ d with place := p }, 0) else (d, 2)
theorem to_calls {B g : Nat} {S : Nat → Prop} {d : Dc} {w : World} (h : DcAt w B g S d) (p : Int) (ok : Bool) :
    Calls Tryd.prog 99 #[.pointer (some ⟨g, 0, none⟩), .int .i64 p, .bool ok] w (MPost w B g S (dTo d p ok)) := by
  have M := Aside0.mk (Mid.start h)
  have c3 := h.get_place
  have f3 := h.frozen 3
  clear h
  cases ok with
  | false =>
    go_enter Tryd.func99, Tryd.ntmps99
    go_wp2
    go_ret
    exact ⟨rfl, M.out⟩
  | true =>
    go_enter Tryd.func99, Tryd.ntmps99
    go_wp2
    go_ret
    exact ⟨rfl, M.out.set_place p⟩

def dClosed (d : Dc) (c : Int) : Dc × Int := dTo d 5 (c == 13)
theorem closed_calls {B g : Nat} {S : Nat → Prop} {d : Dc} {w : World} (h : DcAt w B g S d) (c : Int) :
    Calls Tryd.prog 79 #[.pointer (some ⟨g, 0, none⟩), .int .u8 c] w (MPost w B g S (dClosed d c)) := by
  go_enter Tryd.func79, Tryd.ntmps79
  go_wp2_with (go_at_call 99; refine (to_calls h 5 (c == 13)).mono ?_; rintro e w' ⟨rfl, hm⟩)
  go_ret
  exact ⟨rfl, hm⟩

def dFinish (d : Dc) (c : Int) : Dc × Int := dTo d 11 (c == 10)
theorem finish_calls {B g : Nat} {S : Nat → Prop} {d : Dc} {w : World} (h : DcAt w B g S d) (c : Int) :
    Calls Tryd.prog 85 #[.pointer (some ⟨g, 0, none⟩), .int .u8 c] w (MPost w B g S (dFinish d c)) := by
  go_enter Tryd.func85, Tryd.ntmps85
  go_wp2_with (go_at_call 99; refine (to_calls h 11 (c == 10)).mono ?_; rintro e w' ⟨rfl, hm⟩)
  go_ret
  exact ⟨rfl, hm⟩

def dAgain (d : Dc) (c : Int) : Dc × Int := dTo { d with count := 0 } 0 (c == 10)
theorem again_calls {B g : Nat} {S : Nat → Prop} {d : Dc} {w : World} (h : DcAt w B g S d) (c : Int) :
    Calls Tryd.prog 80 #[.pointer (some ⟨g, 0, none⟩), .int .u8 c] w (MPost w B g S (dAgain d c)) := by
  have M := Aside0.mk ((Mid.start h).set_count 0)
  have c5 := h.get_count
  have f5 := h.frozen 5
  clear h
  go_enter Tryd.func80, Tryd.ntmps80
  go_wp2_with (go_at_call 99; refine (to_calls M.out.1 0 (c == 10)).mono ?_; rintro e w' ⟨rfl, hm⟩)
  go_ret
  exact ⟨rfl, M.out.then hm⟩
def dBegun (d : Dc) (c : Int) : Dc × Int := if d.n = 0 then dTo d 6 (c == 10) else dTo d 3 (c == 10)
theorem begun_calls {B g : Nat} {S : Nat → Prop} {d : Dc} {w : World} (h : DcAt w B g S d) (c : Int) :
    Calls Tryd.prog 77 #[.pointer (some ⟨g, 0, none⟩), .int .u8 c] w (MPost w B g S (dBegun d c)) := by
  by_cases hn : d.n = 0
  · have HP := Aside0.mk (show dBegun d c = dTo d 6 (c == 10) by unfold dBegun; rw [if_pos hn])
    rw [HP.out]
    clear HP
    have H := Aside0.mk h
    have c4 := h.get_n
    have n0 : (d.n == 0) = true := beq_iff_eq.mpr hn
    clear h hn
    go_enter Tryd.func77, Tryd.ntmps77
    go_wp2_with (go_at_call 99; refine (to_calls H.out 6 (c == 10)).mono ?_; rintro e w' ⟨rfl, hm⟩)
    go_ret
    exact ⟨rfl, hm⟩
  · have HP := Aside0.mk (show dBegun d c = dTo d 3 (c == 10) by unfold dBegun; rw [if_neg hn])
    rw [HP.out]
    clear HP
    have H := Aside0.mk h
    have c4 := h.get_n
    have n0 : (d.n == 0) = false := beq_eq_false_iff_ne.mpr hn
    clear h hn
    go_enter Tryd.func77, Tryd.ntmps77
    go_wp2_with (go_at_call 99; refine (to_calls H.out 3 (c == 10)).mono ?_; rintro e w' ⟨rfl, hm⟩)
    go_ret
    exact ⟨rfl, hm⟩

/-- The text of one byte. -/
def one (c : Int) : ByteArray := strOfNums [c]
theorem one_bytes (c : Int) (h0 : 0 ≤ c) (h1 : c ≤ 255) : bytesOf (one c) = [c] := by
  have : (UInt8.ofNat c.toNat).toNat = c.toNat := by
    rw [UInt8.toNat_ofNat']
    omega
  simp only [one, strOfNums, bytesOf, List.map_cons, List.map_nil]
  rw [this]
  congr 1
  omega
theorem one_size (c : Int) : (one c).size = 1 := rfl
theorem text_one (c : Int) (h0 : 0 ≤ c) (h1 : c ≤ 255) : textS (one c) = textB c := by simp [textS, one_bytes c h0 h1]
theorem token_one (c : Int) (h0 : 0 ≤ c) (h1 : c ≤ 255) : tokenS (one c) = tokenB c := by simp [tokenS, one_bytes c h0 h1, one_size]
theorem conv_one (w : World) (c : Int) : (convert 24 9 (.slice (some ⟨w.heap.size, 0, none⟩) 1 1)).run Tryd.prog (w.alloc (.cells #[.int .u8 c] 5)) = .ok (.string (one c)) (w.alloc (.cells #[.int .u8 c] 5)) :=
  run_convert_bytes_arg (w.alloc (.cells #[.int .u8 c] 5)) 24 5 Tryd.underlying24 Tryd.underlying5 w.heap.size 0 1 1 [c] rfl (fun i hi => by
    obtain rfl : i = 0 := by omega
    exact World.cell?_alloc_new w #[.int .u8 c] 5 0) 9 Tryd.underlying9

def dExt (d : Dc) (c : Int) : Dc × Int := if c = 13 then ({ d with place := 2 }, 0) else if textB c = false then (d, 2) else if d.count ≥ d.ext then (d, 5) else ({ d with count := d.count + 1 }, 0)
set_option maxRecDepth 100000 in
theorem ext_calls {B g : Nat} {S : Nat → Prop} {d : Dc} {w : World} (h : DcAt w B g S d) (hB : 2 ≤ B) (hv : Vars w) (hok : DcOk d) (c : Int) (h0 : 0 ≤ c) (h1 : c ≤ 255) :
    Calls Tryd.prog 76 #[.pointer (some ⟨g, 0, none⟩), .int .u8 c] w (MPost w B g S (dExt d c)) := by
  by_cases h13 : c = 13
  · have HP := Aside0.mk (show dExt d c = dTo d 2 true by unfold dExt; rw [if_pos h13]; rfl)
    rw [HP.out]
    subst h13
    go_enter Tryd.func76, Tryd.ntmps76
    go_wp2_with (go_at_call 99; refine (to_calls h 2 true).mono ?_; rintro e w' ⟨rfl, hm⟩)
    go_ret
    exact ⟨rfl, hm⟩
  · have b13 : (c == 13) = false := beq_eq_false_iff_ne.mpr h13
    have M1 := Aside0.mk ((Mid.start h).alloc (.cells #[.int .u8 c] 5))
    have V1 := Aside0.mk (M1.out.vars hv hB)
    have HT := Aside0.mk (text_one c h0 h1)
    have HO := Aside0.mk hok
    have HVB := Aside0.mk (And.intro hv hB)
    clear h hv hok hB
    cases ht : textB c with
    | false =>
      have HP := Aside0.mk (show dExt d c = (d, 2) by unfold dExt; rw [if_neg h13, if_pos ht])
      rw [HP.out]
      rw [ht] at HT
      clear ht h13
      clear HP h0 h1
      have hcv := conv_one w c
      go_enter Tryd.func76, Tryd.ntmps76
      go_wp2_with fail
      refine (text_calls (one c) _ V1.out.1 (by simp [one_size])).mono ?_
      rintro e w2 ⟨rfl, hb2⟩
      rw [HT.out]
      have M2 := Aside0.mk (M1.out.below hb2)
      have c5 := M2.out.1.get_count
      have c0 := M2.out.1.get_ext
      have f5 := M2.out.frozen 5
      clear hb2 hcv
      go_wp2_with fail
      go_ret
      exact ⟨rfl, M2.out⟩
    | true =>
      rw [ht] at HT
      by_cases hc : d.count ≥ d.ext
      · have b1 : decide (d.ext ≤ d.count) = true := decide_eq_true hc
        have HP := Aside0.mk (show dExt d c = (d, 5) by unfold dExt; rw [if_neg h13, if_neg (by rw [ht]; simp), if_pos hc])
        rw [HP.out]
        clear ht h13 hc
        clear HP h0 h1
        have hcv := conv_one w c
        go_enter Tryd.func76, Tryd.ntmps76
        go_wp2_with fail
        refine (text_calls (one c) _ V1.out.1 (by simp [one_size])).mono ?_
        rintro e w2 ⟨rfl, hb2⟩
        rw [HT.out]
        have M2 := Aside0.mk (M1.out.below hb2)
        have c5 := M2.out.1.get_count
        have c0 := M2.out.1.get_ext
        have f5 := M2.out.frozen 5
        clear hb2 hcv
        go_wp2_with fail
        repeat (go_quiet (fail); try go_wp2_with fail)
        go_ret
        exact ⟨rfl, M2.out.drawn _⟩
      · have b1 : decide (d.ext ≤ d.count) = false := decide_eq_false hc
        have e1 := HO.out.count0
        have e2 := HO.out.count1
        have HP := Aside0.mk (show dExt d c = ({ d with count := d.count + 1 }, 0) by unfold dExt; rw [if_neg h13, if_neg (by rw [ht]; simp), if_neg hc])
        rw [HP.out]
        clear ht h13 hc
        clear HP h0 h1
        have hcv := conv_one w c
        go_enter Tryd.func76, Tryd.ntmps76
        go_wp2_with fail
        refine (text_calls (one c) _ V1.out.1 (by simp [one_size])).mono ?_
        rintro e w2 ⟨rfl, hb2⟩
        rw [HT.out]
        have M2 := Aside0.mk (M1.out.below hb2)
        have c5 := M2.out.1.get_count
        have c0 := M2.out.1.get_ext
        have f5 := M2.out.frozen 5
        clear hb2 hcv
        go_wp2_with fail
        repeat (go_quiet (fail); try go_wp2_with fail)
        go_ret
        exact ⟨rfl, (M2.out.drawn _).set_count _⟩

def dDigit (d : Dc) (c : Int) : Dc × Int :=
  if digV c ≥ 0 then (if d.count = 16 ∨ (moreN d.n c).2 ≠ 0 then (d, 3) else ({ d with n := (moreN d.n c).1, count := d.count + 1 }, 0))
  else if d.count = 0 then (d, 2)
  else if c = 59 then
    (if (dExt { d with count := 0, place := 1 } c).2 ≠ 0 then ({ (dExt { d with count := 0, place := 1 } c).1 with count := 1, place := 0 }, (dExt { d with count := 0, place := 1 } c).2)
     else ((dExt { d with count := 0, place := 1 } c).1, 0))
  else dTo d 2 (c == 13)

theorem dExt_ok {d : Dc} (h : DcOk d) (c : Int) : DcOk (dExt d c).1 := by
  obtain ⟨a1, a2, a3, a4, a5, a6, a7, a8, a9, a10, a11, a12, a13, a14, a15, a16⟩ := h
  unfold dExt
  split
  · exact ⟨a1, a2, a3, a4, a5, a6, a7, a8, a9, a10, a11, a12, a13, a14, a15, a16⟩
  · split
    · exact ⟨a1, a2, a3, a4, a5, a6, a7, a8, a9, a10, a11, a12, a13, a14, a15, a16⟩
    · split
      · exact ⟨a1, a2, a3, a4, a5, a6, a7, a8, a9, a10, a11, a12, a13, a14, a15, a16⟩
      · exact ⟨a1, a2, a3, a4, a5, a6, a7, a8, by show 0 ≤ d.count + 1; omega, by show d.count + 1 ≤ 65536; omega, a11, a12, a13, a14, a15, a16⟩

set_option maxHeartbeats 1000000 in
set_option maxRecDepth 100000 in
theorem digit_a1 {B g : Nat} {S : Nat → Prop} {d : Dc} {w : World} (h : DcAt w B g S d) (hB : 2 ≤ B) (hv : Vars w) (hok : DcOk d) (c : Int) (h0 : 0 ≤ c) (h1 : c ≤ 255) (hd : digV c ≥ 0) (hc : d.count = 16) :
    Calls Tryd.prog 75 #[.pointer (some ⟨g, 0, none⟩), .int .u8 c] w (MPost w B g S (dDigit d c)) := by
  have HP := Aside0.mk (show dDigit d c = (d, 3) by unfold dDigit; rw [if_pos hd, if_pos (.inl hc)])
  rw [HP.out]
  have HM := Aside0.mk (more_f d.n c hok.n0 hok.n1)
  have M := Aside0.mk (Mid.start h)
  have HO := Aside0.mk hok
  have c4 := h.get_n
  have c5 := h.get_count
  have c3 := h.get_place
  have f3 := h.frozen 3
  have f4 := h.frozen 4
  have f5 := h.frozen 5
  have HVB := Aside0.mk (And.intro hv hB)
  clear h hv hok hB
  have b0 : decide (0 ≤ digV c) = true := decide_eq_true hd
  have b1 : (d.count == 16) = true := beq_iff_eq.mpr hc
  clear hd hc HP h0 h1
  obtain ⟨m, e, hme⟩ : ∃ m e, moreN d.n c = (m, e) := ⟨_, _, rfl⟩
  rw [hme] at HM 
  clear hme
  go_enter Tryd.func75, Tryd.ntmps75
  go_wp2_with (first | (go_at_call 97; refine (hexa_Digit.calls 1 c _ _ (digV_f c)).mono ?_; rintro e w1 ⟨rfl, ⟨nd, rfl⟩⟩) | (go_at_call 98; refine (hexa_More.calls 1 d.n c _ _ _ HM.out).mono ?_; rintro e w2 ⟨rfl, ⟨n2, rfl⟩⟩))
  repeat (go_quiet (fail); try go_wp2_with fail)
  go_ret
  exact ⟨rfl, M.out.drawn _⟩

set_option maxHeartbeats 1000000 in
set_option maxRecDepth 100000 in
theorem digit_a2 {B g : Nat} {S : Nat → Prop} {d : Dc} {w : World} (h : DcAt w B g S d) (hB : 2 ≤ B) (hv : Vars w) (hok : DcOk d) (c : Int) (h0 : 0 ≤ c) (h1 : c ≤ 255) (hd : digV c ≥ 0) (hc : d.count ≠ 16) (he : (moreN d.n c).2 ≠ 0) :
    Calls Tryd.prog 75 #[.pointer (some ⟨g, 0, none⟩), .int .u8 c] w (MPost w B g S (dDigit d c)) := by
  have HP := Aside0.mk (show dDigit d c = (d, 3) by unfold dDigit; rw [if_pos hd, if_pos (.inr he)])
  rw [HP.out]
  have HM := Aside0.mk (more_f d.n c hok.n0 hok.n1)
  have M := Aside0.mk (Mid.start h)
  have HO := Aside0.mk hok
  have c4 := h.get_n
  have c5 := h.get_count
  have c3 := h.get_place
  have f3 := h.frozen 3
  have f4 := h.frozen 4
  have f5 := h.frozen 5
  have HVB := Aside0.mk (And.intro hv hB)
  clear h hv hok hB
  have b0 : decide (0 ≤ digV c) = true := decide_eq_true hd
  have b1 : (d.count == 16) = false := beq_eq_false_iff_ne.mpr hc
  clear HP h0 h1 hd hc
  obtain ⟨m, e, hme⟩ : ∃ m e, moreN d.n c = (m, e) := ⟨_, _, rfl⟩
  rw [hme] at HM he
  clear hme
  have b2 : (e == 0) = false := beq_eq_false_iff_ne.mpr he
  have b3 : (e != 0) = true := bne_iff_ne.mpr he
  clear he
  go_enter Tryd.func75, Tryd.ntmps75
  go_wp2_with (first | (go_at_call 97; refine (hexa_Digit.calls 1 c _ _ (digV_f c)).mono ?_; rintro e w1 ⟨rfl, ⟨nd, rfl⟩⟩) | (go_at_call 98; refine (hexa_More.calls 1 d.n c _ _ _ HM.out).mono ?_; rintro e w2 ⟨rfl, ⟨n2, rfl⟩⟩))
  repeat (go_quiet (fail); try go_wp2_with fail)
  go_ret
  exact ⟨rfl, M.out.drawn _⟩

set_option maxHeartbeats 1000000 in
set_option maxRecDepth 100000 in
theorem digit_a3 {B g : Nat} {S : Nat → Prop} {d : Dc} {w : World} (h : DcAt w B g S d) (hB : 2 ≤ B) (hv : Vars w) (hok : DcOk d) (c : Int) (h0 : 0 ≤ c) (h1 : c ≤ 255) (hd : digV c ≥ 0) (hc : d.count ≠ 16) (he : (moreN d.n c).2 = 0) :
    Calls Tryd.prog 75 #[.pointer (some ⟨g, 0, none⟩), .int .u8 c] w (MPost w B g S (dDigit d c)) := by
  have HP := Aside0.mk (show dDigit d c = ({ d with n := (moreN d.n c).1, count := d.count + 1 }, 0) by unfold dDigit; rw [if_pos hd, if_neg (by rintro (h | h) <;> contradiction)])
  rw [HP.out]
  have HM := Aside0.mk (more_f d.n c hok.n0 hok.n1)
  have M := Aside0.mk (Mid.start h)
  have HO := Aside0.mk hok
  have c4 := h.get_n
  have c5 := h.get_count
  have c3 := h.get_place
  have f3 := h.frozen 3
  have f4 := h.frozen 4
  have f5 := h.frozen 5
  have HVB := Aside0.mk (And.intro hv hB)
  clear h hv hok hB
  have b0 : decide (0 ≤ digV c) = true := decide_eq_true hd
  have b1 : (d.count == 16) = false := beq_eq_false_iff_ne.mpr hc
  have e1 := HO.out.count0
  have e2 := HO.out.count1
  clear HP h0 h1 hd hc
  obtain ⟨m, e, hme⟩ : ∃ m e, moreN d.n c = (m, e) := ⟨_, _, rfl⟩
  rw [hme] at HM he ⊢
  clear hme
  obtain rfl : e = 0 := he
  go_enter Tryd.func75, Tryd.ntmps75
  go_wp2_with (first | (go_at_call 97; refine (hexa_Digit.calls 1 c _ _ (digV_f c)).mono ?_; rintro e w1 ⟨rfl, ⟨nd, rfl⟩⟩) | (go_at_call 98; refine (hexa_More.calls 1 d.n c _ _ _ HM.out).mono ?_; rintro e w2 ⟨rfl, ⟨n2, rfl⟩⟩))
  repeat (go_quiet (fail); try go_wp2_with fail)
  go_ret
  exact ⟨rfl, ((M.out.drawn _).set_n _).set_count _⟩

set_option maxHeartbeats 1000000 in
set_option maxRecDepth 100000 in
theorem digit_b1 {B g : Nat} {S : Nat → Prop} {d : Dc} {w : World} (h : DcAt w B g S d) (hB : 2 ≤ B) (hv : Vars w) (hok : DcOk d) (c : Int) (h0 : 0 ≤ c) (h1 : c ≤ 255) (hd : ¬ digV c ≥ 0) (hc : d.count = 0) :
    Calls Tryd.prog 75 #[.pointer (some ⟨g, 0, none⟩), .int .u8 c] w (MPost w B g S (dDigit d c)) := by
  have HP := Aside0.mk (show dDigit d c = (d, 2) by unfold dDigit; rw [if_neg hd, if_pos hc])
  rw [HP.out]
  have HM := Aside0.mk (more_f d.n c hok.n0 hok.n1)
  have M := Aside0.mk (Mid.start h)
  have HO := Aside0.mk hok
  have c4 := h.get_n
  have c5 := h.get_count
  have c3 := h.get_place
  have f3 := h.frozen 3
  have f4 := h.frozen 4
  have f5 := h.frozen 5
  have HVB := Aside0.mk (And.intro hv hB)
  clear h hv hok hB
  have b0 : decide (0 ≤ digV c) = false := decide_eq_false hd
  have b1 : (d.count == 0) = true := beq_iff_eq.mpr hc
  clear HP h0 h1 hd hc HM
  go_enter Tryd.func75, Tryd.ntmps75
  go_wp2_with (first | (go_at_call 97; refine (hexa_Digit.calls 1 c _ _ (digV_f c)).mono ?_; rintro e w1 ⟨rfl, ⟨nd, rfl⟩⟩))
  repeat (go_quiet (fail); try go_wp2_with fail)
  go_ret
  exact ⟨rfl, M.out.drawn _⟩

set_option maxHeartbeats 1000000 in
set_option maxRecDepth 100000 in
theorem digit_b3 {B g : Nat} {S : Nat → Prop} {d : Dc} {w : World} (h : DcAt w B g S d) (hB : 2 ≤ B) (hv : Vars w) (hok : DcOk d) (c : Int) (h0 : 0 ≤ c) (h1 : c ≤ 255) (hd : ¬ digV c ≥ 0) (hc : d.count ≠ 0) (he : c ≠ 59) :
    Calls Tryd.prog 75 #[.pointer (some ⟨g, 0, none⟩), .int .u8 c] w (MPost w B g S (dDigit d c)) := by
  have HP := Aside0.mk (show dDigit d c = dTo d 2 (c == 13) by unfold dDigit; rw [if_neg hd, if_neg hc, if_neg he])
  rw [HP.out]
  have HM := Aside0.mk (more_f d.n c hok.n0 hok.n1)
  have M := Aside0.mk (Mid.start h)
  have HO := Aside0.mk hok
  have c4 := h.get_n
  have c5 := h.get_count
  have c3 := h.get_place
  have f3 := h.frozen 3
  have f4 := h.frozen 4
  have f5 := h.frozen 5
  have HVB := Aside0.mk (And.intro hv hB)
  clear h hv hok hB
  have b0 : decide (0 ≤ digV c) = false := decide_eq_false hd
  have b1 : (d.count == 0) = false := beq_eq_false_iff_ne.mpr hc
  have b2 : (c == 59) = false := beq_eq_false_iff_ne.mpr he
  clear HP h0 h1 hd hc he HM
  go_enter Tryd.func75, Tryd.ntmps75
  go_wp2_with (first | (go_at_call 97; refine (hexa_Digit.calls 1 c _ _ (digV_f c)).mono ?_; rintro e w1 ⟨rfl, ⟨nd, rfl⟩⟩) | (go_at_call 99; refine (to_calls (M.out.drawn _).1 2 (c == 13)).mono ?_; rintro e w' ⟨rfl, hm⟩))
  repeat (go_quiet (fail); try go_wp2_with fail)
  go_ret
  exact ⟨rfl, (M.out.drawn _).then hm⟩

set_option maxHeartbeats 1000000 in
set_option maxRecDepth 100000 in
theorem digit_b2x {B g : Nat} {S : Nat → Prop} {d : Dc} {w : World} (h : DcAt w B g S d) (hB : 2 ≤ B) (hv : Vars w) (hok : DcOk d) (hd : ¬ digV 59 ≥ 0) (hc : d.count ≠ 0) (he : (dExt { d with count := 0, place := 1 } 59).2 ≠ 0) :
    Calls Tryd.prog 75 #[.pointer (some ⟨g, 0, none⟩), .int .u8 59] w (MPost w B g S (dDigit d 59)) := by
  have HP := Aside0.mk (show dDigit d 59 = ({ (dExt { d with count := 0, place := 1 } 59).1 with count := 1, place := 0 }, (dExt { d with count := 0, place := 1 } 59).2) by unfold dDigit; rw [if_neg hd, if_neg hc, if_pos rfl, if_pos he])
  rw [HP.out]
  have HO2 : Aside0 (DcOk { d with count := 0, place := 1 }) := ⟨{ hok with count0 := Int.le_refl 0, count1 := by show (0 : Int) ≤ 65536; omega }⟩
  have M := Aside0.mk (Mid.start h)
  have HO := Aside0.mk hok
  have c4 := h.get_n
  have c5 := h.get_count
  have c3 := h.get_place
  have f3 := h.frozen 3
  have f4 := h.frozen 4
  have f5 := h.frozen 5
  have HVB := Aside0.mk (And.intro hv hB)
  clear h hv hok hB
  have b0 : decide (0 ≤ digV 59) = false := decide_eq_false hd
  have b1 : (d.count == 0) = false := beq_eq_false_iff_ne.mpr hc
  have b3 : ((dExt { d with count := 0, place := 1 } 59).2 != 0) = true := bne_iff_ne.mpr he
  clear HP hd hc he
  go_enter Tryd.func75, Tryd.ntmps75
  go_wp2_with (go_at_call 97; refine (hexa_Digit.calls 1 59 _ _ (digV_f 59)).mono ?_; rintro e w1 ⟨rfl, ⟨nd, rfl⟩⟩; have M2 := Aside0.mk (((M.out.drawn nd).set_count 0).set_place 1); clear M)
  refine (ext_calls M2.out.1 HVB.out.2 (M2.out.vars HVB.out.1 HVB.out.2) HO2.out 59 (by omega) (by omega)).mono ?_
  rintro e w2 ⟨rfl, hm⟩
  have M3 := Aside0.mk (M2.out.then hm)
  have k5 := M3.out.1.get_count
  have k3 := M3.out.1.get_place
  have l3 := M3.out.frozen 3
  have l5 := M3.out.frozen 5
  clear hm M2
  generalize (dExt { d with count := 0, place := 1 } 59).2 = r2 at *
  generalize (dExt { d with count := 0, place := 1 } 59).1 = d2 at *
  go_wp2_with fail
  go_ret
  exact ⟨rfl, (M3.out.set_count 1).set_place 0⟩

set_option maxHeartbeats 1000000 in
set_option maxRecDepth 100000 in
theorem digit_b2y {B g : Nat} {S : Nat → Prop} {d : Dc} {w : World} (h : DcAt w B g S d) (hB : 2 ≤ B) (hv : Vars w) (hok : DcOk d) (hd : ¬ digV 59 ≥ 0) (hc : d.count ≠ 0) (he : (dExt { d with count := 0, place := 1 } 59).2 = 0) :
    Calls Tryd.prog 75 #[.pointer (some ⟨g, 0, none⟩), .int .u8 59] w (MPost w B g S (dDigit d 59)) := by
  have HP := Aside0.mk (show dDigit d 59 = ((dExt { d with count := 0, place := 1 } 59).1, 0) by unfold dDigit; rw [if_neg hd, if_neg hc, if_pos rfl, if_neg (by rw [he]; simp)])
  rw [HP.out]
  have HO2 : Aside0 (DcOk { d with count := 0, place := 1 }) := ⟨{ hok with count0 := Int.le_refl 0, count1 := by show (0 : Int) ≤ 65536; omega }⟩
  have M := Aside0.mk (Mid.start h)
  have HO := Aside0.mk hok
  have c4 := h.get_n
  have c5 := h.get_count
  have c3 := h.get_place
  have f3 := h.frozen 3
  have f4 := h.frozen 4
  have f5 := h.frozen 5
  have HVB := Aside0.mk (And.intro hv hB)
  clear h hv hok hB
  have b0 : decide (0 ≤ digV 59) = false := decide_eq_false hd
  have b1 : (d.count == 0) = false := beq_eq_false_iff_ne.mpr hc
  have b3 : ((dExt { d with count := 0, place := 1 } 59).2 != 0) = false := bne_eq_false_iff_eq.mpr he
  clear HP hd hc he
  go_enter Tryd.func75, Tryd.ntmps75
  go_wp2_with (go_at_call 97; refine (hexa_Digit.calls 1 59 _ _ (digV_f 59)).mono ?_; rintro e w1 ⟨rfl, ⟨nd, rfl⟩⟩; have M2 := Aside0.mk (((M.out.drawn nd).set_count 0).set_place 1); clear M)
  refine (ext_calls M2.out.1 HVB.out.2 (M2.out.vars HVB.out.1 HVB.out.2) HO2.out 59 (by omega) (by omega)).mono ?_
  rintro e w2 ⟨rfl, hm⟩
  have M3 := Aside0.mk (M2.out.then hm)
  have k5 := M3.out.1.get_count
  have k3 := M3.out.1.get_place
  have l3 := M3.out.frozen 3
  have l5 := M3.out.frozen 5
  clear hm M2
  generalize (dExt { d with count := 0, place := 1 } 59).2 = r2 at *
  generalize (dExt { d with count := 0, place := 1 } 59).1 = d2 at *
  go_wp2_with fail
  go_ret
  exact ⟨rfl, M3.out⟩

theorem digit_calls {B g : Nat} {S : Nat → Prop} {d : Dc} {w : World} (h : DcAt w B g S d) (hB : 2 ≤ B) (hv : Vars w) (hok : DcOk d) (c : Int) (h0 : 0 ≤ c) (h1 : c ≤ 255) :
    Calls Tryd.prog 75 #[.pointer (some ⟨g, 0, none⟩), .int .u8 c] w (MPost w B g S (dDigit d c)) := by
  by_cases hd : digV c ≥ 0
  · by_cases hc : d.count = 16
    · exact digit_a1 h hB hv hok c h0 h1 hd hc
    · by_cases he : (moreN d.n c).2 = 0
      · exact digit_a3 h hB hv hok c h0 h1 hd hc he
      · exact digit_a2 h hB hv hok c h0 h1 hd hc he
  · by_cases hc : d.count = 0
    · exact digit_b1 h hB hv hok c h0 h1 hd hc
    · by_cases he : c = 59
      · subst he
        by_cases hx : (dExt { d with count := 0, place := 1 } 59).2 = 0
        · exact digit_b2y h hB hv hok hd hc hx
        · exact digit_b2x h hB hv hok hd hc hx
      · exact digit_b3 h hB hv hok c h0 h1 hd hc he
end Go.Proofs.YtebjfgkgfgbndaaDoor
