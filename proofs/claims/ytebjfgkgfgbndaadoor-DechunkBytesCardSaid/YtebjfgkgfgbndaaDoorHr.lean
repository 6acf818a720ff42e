/- What the rows of this seat share: the listed variables as they lie, the arguments opened and shut. -/
import Derived.Test.YtebjfgkgfgbndaaDoorHn
import Derived.Test.YtebjfgkgfgbndaaDoorRows
import Derived.Test.YtebjfgkgfgbndaaDoorWSized
import Derived.ProofKit
import Derived.LaidMore
import Derived.OpenShut
import Derived.Lay
import Derived.ChangeOld
import Derived.SizedLaws
import Derived.Stop.Joined
import Derived.Shelf.Vars
import Derived.Lib.SmallJoins
namespace Go.Proofs.YtebjfgkgfgbndaaDoor
open Go.ChangeShapes Go.WideShapes Go.ChangeAt Go.RowKit Go.Joins
set_option linter.unusedVariables false

theorem own : ownKnob Tryd.prog.godebug = none := by kernel_rfl
theorem laidOut : laidOutB Tryd.prog = true := by kernel_rfl
/-- What every row of the layers 8 and 9 lists. -/
def listed : List (String × DataW Unit) := [("unicode/utf8.acceptRanges", Rows.laid_unicode_utf8_acceptRanges), ("catchpit/octet.ends", Rows.laid_catchpit_octet_ends), ("unicode/utf8.first", Rows.laid_unicode_utf8_first)]

theorem list2 {α : Type} {l : List α} (h : l.length = 2) : ∃ a b, l = [a, b] := by
  match l, h with
  | [a, b], _ => exact ⟨a, b, rfl⟩
theorem list3 {α : Type} {l : List α} (h : l.length = 3) : ∃ a b c, l = [a, b, c] := by
  match l, h with
  | [a, b, c], _ => exact ⟨a, b, c, rfl⟩
theorem list6 {α : Type} {l : List α} (h : l.length = 6) : ∃ a b c d e f, l = [a, b, c, d, e, f] := by
  match l, h with
  | [a, b, c, d, e, f], _ => exact ⟨a, b, c, d, e, f, rfl⟩

theorem pair_cells {H : Type} {enc : TypeId × Value → H} {W : World} {base : Nat} {spare : Nat → Bool} {held : Bool} {fuel : Nat} {cs : List Value} {x : DataW H × List MemPlace} {a b : Int}
    (h : DataW.trod enc Tryd.prog W base spare held fuel 162 cs = some x) (e : x.1 = .agg [.lit (.int .u8 a), .lit (.int .u8 b)]) : cs = [.int .u8 a, .int .u8 b] := by
  obtain ⟨ys, m, _, ex, hl, hn, hel⟩ := DataW.trod_array Tryd.underlying162 h
  have c5 : Tryd.prog.cellsOf 5 = 1 := by kernel_rfl
  have c162 : Tryd.prog.cellsOf 162 = 2 := by kernel_rfl
  subst ex
  obtain ⟨y0, y1, rfl⟩ := list2 hn
  obtain ⟨k0, k1, rfl⟩ := list2 (hl.trans c162)
  have h0 := hel 0 (by omega)
  have h1 := hel 1 (by omega)
  simp [c5] at h0 h1
  obtain ⟨z0, p0, q0, _⟩ := DataW.trod_int Tryd.underlying5 h0
  obtain ⟨z1, p1, q1, _⟩ := DataW.trod_int Tryd.underlying5 h1
  subst q0 q1
  simp at e p0 p1
  obtain ⟨rfl, rfl⟩ := e
  rw [p0, p1]

theorem ends_of_laid {W : World} (h : laidMetH Tryd.prog listed W) (hs : W.ShapedOpen Tryd.prog) : EndsAt W := by
  rw [MakeChecks.laidMetH_plain _ _ _ (by kernel_rfl)] at h
  obtain ⟨ps, ⟨_, _, _, _, _, _, _, _, _, _, ⟨g, t, cs, fuel, p, q, hg, ht, hv, hd, _, _⟩, _⟩, _, _⟩ := h
  obtain rfl := Option.some.inj ((show Tryd.prog.globalNamed "catchpit/octet.ends" = some 0 by kernel_rfl).symm.trans hg)
  obtain rfl := Option.some.inj ((show (Tryd.prog.globals[0]?).map (·.type) = some 163 by kernel_rfl).symm.trans ht)
  obtain ⟨cs', hh, _, _⟩ := hs.1 0 #[.int .u8 0, .int .u8 0, .int .u8 0, .int .u8 0, .int .u8 0, .int .u8 0] 163 (of_decide_eq_true (by kernel_rfl)) (by kernel_rfl)
  have hcs : cs = cs' := by
    have h1 : W.cell? ⟨0, 0, none⟩ = cs[0]? := World.var?_cell hg hv 0
    refine Array.ext' (List.ext_getElem? fun i => ?_)
    have h2 := World.var?_cell hg hv i
    unfold World.cell? at h2
    rw [hh] at h2
    simpa using h2.symm
  subst hcs
  obtain ⟨xs, m, _, ex, hl, hn, hel⟩ := DataW.trod_array Tryd.underlying163 hd
  have c162 : Tryd.prog.cellsOf 162 = 2 := by kernel_rfl
  have c163 : Tryd.prog.cellsOf 163 = 6 := by kernel_rfl
  unfold EndsAt
  rw [hh]
  obtain ⟨cs⟩ := cs
  obtain ⟨y0, y1, y2, rfl⟩ := list3 hn
  obtain ⟨k0, k1, k2, k3, k4, k5, rfl⟩ := list6 (hl.trans c163)
  have h0 := hel 0 (by omega)
  have h1 := hel 1 (by omega)
  have h2 := hel 2 (by omega)
  simp [c162] at h0 h1 h2
  have e := (DataW.agg.inj (Prod.mk.inj ex).1).symm
  simp at e
  have r0 := pair_cells h0 e.1
  have r1 := pair_cells h1 e.2.1
  have r2 := pair_cells h2 e.2.2
  simp at r0 r1 r2
  obtain ⟨rfl, rfl⟩ := r0
  obtain ⟨rfl, rfl⟩ := r1
  obtain ⟨rfl, rfl⟩ := r2
  rfl

theorem vars_of_laid {W : World} (h : laidMetH Tryd.prog listed W) (hs : W.ShapedOpen Tryd.prog) : Vars W :=
  ⟨ends_of_laid h hs, cell_of_shapedOpen_int (t := 3) (zero := #[.int .i64 0]) hs (of_decide_eq_true (by kernel_rfl)) (by kernel_rfl) rfl (by kernel_rfl) (by kernel_rfl) Tryd.underlying3⟩
theorem vars_size {W : World} (h : Vars W) : 2 ≤ W.heap.size := by
  obtain ⟨m, hm⟩ := h.2
  exact World.block_lt_of_cell? W _ hm
end Go.Proofs.YtebjfgkgfgbndaaDoor
