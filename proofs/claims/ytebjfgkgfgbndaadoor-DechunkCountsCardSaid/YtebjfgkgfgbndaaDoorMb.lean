/- line1; the decoder's step as a plain function: contracts (walks) and plain laws over this seat's translation. -/
import Derived.Test.YtebjfgkgfgbndaaDoorMa
import Derived.Lib.Hide
namespace Go.Proofs.YtebjfgkgfgbndaaDoor
open Go.RowKit Go.Proofs.YtebjfgkgfgbndaaDoorW.PrintWords Go.Proofs.YtebjfgkgfgbndaaDoorW.PrintLast Go.Proofs.YtebjfgkgfgbndaaDoorW.PrintMore
open PBodyScans
set_option linter.unusedVariables false
set_option linter.unusedSimpArgs false

def fieldOf (s : ByteArray) : S53 := if parseOk s = true then ⟨cutN s, cutV s⟩ else ⟨⟨#[]⟩, ⟨#[]⟩⟩
theorem parseRet_field (s : ByteArray) : ∃ e, parseRet s = .tuple #[.agg #[.string (fieldOf s).f0, .string (fieldOf s).f1], .int .i64 e] := by
  unfold fieldOf
  cases h : parseOk s with
  | true => exact ⟨0, by rw [parseRet_ok h]; rfl⟩
  | false => exact ⟨2, by rw [parseRet_no h]; rfl⟩
theorem strOfNums_size (xs : List Int) : (strOfNums xs).size = xs.length := by simp [strOfNums, ByteArray.size]
theorem conv_take {W : World} {base : Nat} {ok : Nat → Prop} {v : Value} {xs : List Int} (h : Kd.R (Kd.int .u8) 5 W base ok v xs) :
    ∃ A c, v = .slice A xs.length c ∧ xs.length ≤ c ∧ ∀ j, j ≤ xs.length → ∀ W', Below W.heap.size W W' → (convert 24 9 (.slice A j c)).run Tryd.prog W' = .ok (.string (strOfNums (xs.take j))) W' := by
  obtain ⟨A, c, rfl, hle, hC⟩ := Kd.R_reads h
  have ho := Kd.own_of_R h
  refine ⟨A, c, rfl, hle, fun j hj W' hb => ?_⟩
  have ho' := pw_own_below ho hb
  rcases ho'.2 with ⟨he, hx⟩ | ⟨g, cap, cur, he, _⟩
  · have hx0 : xs = [] := by
      have := ho'.1
      rw [hx] at this
      exact List.eq_nil_of_length_eq_zero (by rw [encs_length] at this; simpa using this)
    subst hx0
    simp only [Value.slice.injEq] at he
    obtain ⟨h1, h2, h3⟩ := he
    subst h1
    obtain rfl : j = 0 := by simpa using hj
    exact run_convert_bytes_nil W' 24 5 Tryd.underlying24 Tryd.underlying5 0 c 9 Tryd.underlying9
  · simp only [Value.slice.injEq] at he
    obtain ⟨h1, h2, h3⟩ := he
    subst h1
    refine run_convert_bytes_arg W' 24 5 Tryd.underlying24 Tryd.underlying5 g 0 j c (xs.take j) (by simp; omega) (fun i hi => ?_) 9 Tryd.underlying9
    have hc := ho'.cells (g := g) rfl i (.int .u8 (xs.getD i 0)) (by simp [encs, List.getElem?_eq_getElem (show i < xs.length by omega), List.getD_eq_getElem?_getD])
    have ha : (⟨g, 0, none⟩ : Addr).add i = ⟨g, 0 + i, none⟩ := by unfold Addr.add; split <;> simp_all
    rw [ha] at hc
    rw [hc]
    simp [List.getD_eq_getElem?_getD, hi]

/-- The fields have grown by an append, and are laid back. -/
theorem Mid.appendedF {w W w1 : World} {B g : Nat} {S : Nat → Prop} {d : Dc} (M : Mid w B g S d W) {vl vf v1 : Value} {l' : List S53} (hraw : DcRaw W B g (fun k => S k ∨ w.heap.size ≤ k) d vl vf)
    (hR : Kd.R k53 53 w1 B (fun k => S k ∨ w.heap.size ≤ k) v1 l') (hB : Below B w w1) (hgr : W.grownBy w1 vf.ownBlock) : Mid w B g S { d with fields := l' } (w1.setCell ⟨g, 9, none⟩ v1) := by
  obtain ⟨_, hg, hl, hf⟩ := hraw
  have hlt : g < W.heap.size := (Array.getElem?_eq_some_iff.1 hg).1
  have hne : some g ≠ vf.ownBlock := Kd.R_ne hf hg (by decide)
  have hg1 : w1.heap[g]? = some (.cells (dcCells d vl vf) 100 (0, 0)) := (hgr.block g hlt hne).trans hg
  have hlt1 : g < w1.heap.size := (Array.getElem?_eq_some_iff.1 hg1).1
  have hl1 : Kd.R (Kd.int .u8) 5 w1 B (fun k => S k ∨ w.heap.size ≤ k) vl d.line := by
    refine Kd.R_mono (Kd.R_grown (Kd.R_bound hl) hgr (fun k hk e => ?_)) (fun _ hk => hk.1)
    obtain ⟨_, _, _, q, hq, cells, hc⟩ := hk
    obtain ⟨inner, ho⟩ := Kd.R_own hf
    obtain ⟨cells', hc'⟩ := own_typed ho k e.symm
    rw [hc] at hc'
    injection hc' with hc'
    injection hc' with _ ht
    have hq' : q = 5 := by simpa [Kd.int, Kd.scalar] using hq
    exact absurd (hq'.symm.trans ht) (by decide)
  have hset : (w1.setCell ⟨g, 9, none⟩ v1).heap[g]? = some (.cells (dcCells { d with fields := l' } vl v1) 100 (0, 0)) := by
    show (w1.heap.modify g _)[g]? = _
    rw [Array.getElem?_eq_getElem (by rw [Array.size_modify]; exact hlt1), Array.getElem_modify_self]
    obtain ⟨_, he⟩ := Array.getElem?_eq_some_iff.1 hg1
    rw [he]
    rfl
  refine ⟨⟨M.1.1, vl, v1, hset, Kd.R_set hl1 hg1 (by simp [Kd.int, Kd.scalar]) 9 v1, Kd.R_set hR hg1 (by simp [k53, Kd.iso, Kd.pair, Kd.string, Kd.scalar]) 9 v1⟩, hB.setCell (p := ⟨g, 9, none⟩) M.1.1 _, ?_⟩
  refine kept_set ⟨Nat.le_trans M.2.2.1 hgr.size, fun i hi hs => ?_⟩ (.inl rfl) 9 _
  refine (hgr.block i (Nat.lt_of_lt_of_le hi M.2.2.1) (fun e => ?_)).trans (M.2.2.2 i hi hs)
  exact (hf.1 i e.symm).elim (fun h => hs (.inr h)) (fun h => by omega)
theorem Mid.lineNil {w W : World} {B g : Nat} {S : Nat → Prop} {d : Dc} (M : Mid w B g S d W) : Mid w B g S { d with line := [] } (W.setCell ⟨g, 8, none⟩ (.slice none 0 0)) := by
  obtain ⟨⟨h0, vl, vf, h1, h2, h3⟩, hb, hk⟩ := M
  refine ⟨⟨h0, .slice none 0 0, vf, ?_, Kd.R_nil _ _ _ _ _, Kd.R_set h3 h1 (by simp [k53, Kd.iso, Kd.pair, Kd.string, Kd.scalar]) 8 _⟩, hb.setCell (p := ⟨g, 8, none⟩) h0 _, kept_set hk (.inl rfl) 8 _⟩
  show (W.heap.modify g _)[g]? = _
  obtain ⟨hlt, he⟩ := Array.getElem?_eq_some_iff.1 h1
  rw [Array.getElem?_eq_getElem (by rw [Array.size_modify]; exact hlt), Array.getElem_modify_self, he]
  rfl
theorem DcRaw.grownF {w w1 : World} {B g : Nat} {S : Nat → Prop} {d : Dc} {vl vf : Value} (h : DcRaw w B g S d vl vf) (hgr : w.grownBy w1 vf.ownBlock) :
    w1.heap[g]? = some (.cells (dcCells d vl vf) 100 (0, 0)) := (hgr.block g (Array.getElem?_eq_some_iff.1 h.2.1).1 (Kd.R_ne h.2.2.2 h.2.1 (by decide))).trans h.2.1
section
variable {P : Program} {ops : Array Oper} {o : Oper} {a : Act} {Q : Exit → Act → World → Prop} {Kc : Act → World → Prop} {α : Type}
theorem R_append_step_at (d : Kd α) {w0 W : World} (base : Nat) (hw : Region.wanted o (yielded ops a.tmps) = true) (s x : Operand) (t e : TypeId) (z : Value) (bytes : Nat)
    (ho : o.op = .call { callee := .builtin .append, args := #[s, x], argTypes := #[t, t] })
    (ht : P.underlying t = some (.slice e)) (hinfo : (P.info? e).map (fun i => (i.zero, i.size, i.bytes)) = some (some z, d.sz, bytes)) (hz : z.cells.size = d.sz) (hs0 : 0 < d.sz) (hb0 : 0 < bytes)
    (v : Value) (xs : List α) (p : α) (cs : List Value) (ok okp : Nat → Prop) (H : Nat) (hs : a.eval s = v) (hx : a.eval x = .slice (some ⟨H, 0, none⟩) 1 1) (hH : W.heap.size = H) (hp : d.M W.drew base okp p cs) (hokp : ∀ k, okp k → ok k ∧ some k ≠ v.ownBlock) (hfresh : ∀ k, W.heap.size ≤ k → ok k)
    (HO : d.R e W base ok v xs) (HB : Below base w0 W) (hbase : base ≤ W.heap.size) (hl : (xs.length + 1) * bytes ≤ 140737488355328)
    (h : ∀ v1 w1, d.R e w1 base ok v1 (xs ++ [p]) → Below base w0 w1 → W.grownBy w1 v.ownBlock → Kc (a.put o.dst v1) w1) :
    if Region.wanted o (yielded ops a.tmps) = true then Oper.wp P o a (W.alloc (.cells cs.toArray e)).drew Kc Q else Kc (a.put o.dst undef) (W.alloc (.cells cs.toArray e)).drew := by
  subst hH
  exact Kd.R_append_step d (W := W.drew) base hw s x t e z bytes ho ht hinfo hz hs0 hb0 v xs p cs ok okp hs hx hp hokp hfresh (Kd.R_below HO (Drawn0.below ⟨1, rfl⟩)) (below_drew HB) hbase hl
    (fun v1 w1 h1 h2 h3 _ => h v1 w1 h1 h2 ⟨h3.os, h3.tape, h3.output, h3.size, h3.block⟩)
end

def dLine (d : Dc) (c : Int) : Dc × Int :=
  if c ≠ 10 then (d, 2) else if d.size ≥ d.byts then (d, 5)
  else ({ d with size := d.size + 1, place := 6, fields := d.fields ++ [fieldOf (strOfNums (d.line.take (d.line.length - 1)))], line := [] }, 0)

set_option maxHeartbeats 2000000 in
set_option maxRecDepth 100000 in
theorem line_ok {B g : Nat} {S : Nat → Prop} {d : Dc} {w : World} (h : DcAt w B g S d) (hB : 2 ≤ B) (hv : Vars w) (hok : DcOk d) (hl : 1 ≤ d.line.length) (hs : d.size < d.byts) :
    Calls Tryd.prog 84 #[.pointer (some ⟨g, 0, none⟩), .int .u8 10] w (MPost w B g S ({ d with size := d.size + 1, place := 6, fields := d.fields ++ [fieldOf (strOfNums (d.line.take (d.line.length - 1)))], line := [] }, 0)) := by
  have M := Aside0.mk (Mid.start h)
  have HO := Aside0.mk hok
  have HV := Aside0.mk (And.intro hv hB)
  have HL := Aside0.mk hl
  have HS := Aside0.mk hs
  have H := Aside0.mk h
  obtain ⟨j, hj⟩ : ∃ j, d.line.length = j + 1 := ⟨d.line.length - 1, by omega⟩
  have HJ := Aside0.mk hj
  have hj1 : j ≤ 65536 := by have := hok.len; have := hok.size1; omega
  clear h hv hok hB hl hs hj
  go_enter Tryd.func84, Tryd.ntmps84
  go_wp2_with fail
  refine (more_yes H.out HO.out 10 6 (by have := HS.out; omega)).mono ?_
  rintro e w1 ⟨rfl, hm⟩
  have M1 := Aside0.mk hm
  obtain ⟨vl, vf, hraw⟩ := M1.out.1.raw
  have hll : (d.line ++ [10]).length = j + 2 := by rw [List.length_append, HJ.out]; rfl
  have hz : ∃ A c, vl = .slice A (j + 2) c ∧ j + 2 ≤ c ∧ ∀ W', Below w1.heap.size w1 W' → (convert 24 9 (.slice A j c)).run Tryd.prog W' = .ok (.string (strOfNums (d.line.take j))) W' := by
    obtain ⟨A, c, he, hle, hq⟩ := conv_take hraw.2.2.1
    refine ⟨A, c, by rw [he]; show Value.slice A (d.line ++ [10]).length c = _; rw [hll], by have : (d.line ++ [10]).length ≤ c := hle; omega, fun W' hb => ?_⟩
    have := hq j (by show j ≤ (d.line ++ [10]).length; omega) W' hb
    rw [this]
    show Result.ok (Value.string (strOfNums ((d.line ++ [10]).take j))) W' = _
    rw [List.take_append_of_le_length (by have := HJ.out; omega)]
  have R1 := Aside0.mk hraw
  obtain ⟨A, k, rfl, hk, hcv0⟩ := hz
  have HCV := Aside0.mk hcv0
  have c8 := hraw.get_line
  have c9 := hraw.get_fields
  have hw1 : IntKind.i64.wrap (j : Int) = (j : Int) := IntWalk.i64_in _ (by omega)
  have hk' : (j : Int) ≤ (k : Int) := by omega
  have hj0 : (0 : Int) ≤ (j : Int) := by omega
  have VD : Aside0 (Vars w1.drew) := ⟨(M1.out.vars HV.out.1 HV.out.2).below (Drawn0.below ⟨1, rfl⟩)⟩
  have HSS : Aside0 ((strOfNums (d.line.take j)).size < 4294967281) := ⟨by rw [strOfNums_size]; simp; omega⟩
  obtain ⟨pe, hpe⟩ := parseRet_field (strOfNums (d.line.take j))
  obtain ⟨f0, f1, hf⟩ : ∃ f0 f1, fieldOf (strOfNums (d.line.take j)) = ⟨f0, f1⟩ := ⟨_, _, rfl⟩
  simp only [hf] at hpe
  have HPE := Aside0.mk hpe
  have HE : Aside0 (fieldOf (strOfNums (d.line.take (d.line.length - 1))) = ⟨f0, f1⟩) := ⟨by rw [show d.line.length - 1 = j by have := HJ.out; omega]; exact hf⟩
  clear hf
  have HG : Aside0 (g < w1.drew.heap.size) := ⟨M1.out.1.lt⟩
  have AB := (Below.refl w1.heap.size w1).alloc (Nat.le_refl _) (.cells #[.string ⟨#[]⟩, .string ⟨#[]⟩] 53)
  have VA : Aside0 (Vars (w1.alloc (.cells #[.string ⟨#[]⟩, .string ⟨#[]⟩] 53)).drew) := ⟨(M1.out.vars HV.out.1 HV.out.2).below (below_drew AB)⟩
  have HGA : Aside0 (g < (w1.alloc (.cells #[.string ⟨#[]⟩, .string ⟨#[]⟩] 53)).drew.heap.size ∧ (w1.alloc (.cells #[.string ⟨#[]⟩, .string ⟨#[]⟩] 53)).drew.cell? ⟨g, 8, none⟩ = some (.slice A (j + 2) k) ∧ w1.heap.size < (w1.alloc (.cells #[.string ⟨#[]⟩, .string ⟨#[]⟩] 53)).drew.heap.size) :=
    ⟨by have := M1.out.1.lt; simp; omega, (World.cell?_alloc_lt w1 _ ⟨g, 8, none⟩ M1.out.1.lt).trans c8, by simp⟩
  have FZ : Aside0 ((w1.alloc (.cells #[.string ⟨#[]⟩, .string ⟨#[]⟩] 53)).drew.frozen? ⟨w1.heap.size, 0, none⟩ = false ∧ (w1.alloc (.cells #[.string ⟨#[]⟩, .string ⟨#[]⟩] 53)).drew.frozen? ⟨w1.heap.size, 1, none⟩ = false) := ⟨by simp, by simp⟩
  have hne1 := World.new_ne w1 ⟨g, 8, none⟩ c8
  clear hraw hm hpe AB hcv0 hll
  go_wp2_with fail
  go_region_held3 (fun w' => w'.cell? ⟨g, 8, none⟩ = some (.slice A (j + 2) k) ∧ (convert 24 9 (.slice A j k)).run Tryd.prog w' = .ok (.string (strOfNums (d.line.take j))) w') (refine ⟨by (first | assumption | go_keep), HCV.out _ (by repeat (first | exact Below.refl _ _ | assumption | refine below_drew ?_ | refine below_alloc' ?_ (Nat.le_refl _) _ | refine Below.setCell (p := ⟨w1.heap.size, 0, none⟩) ?_ (Nat.le_refl _) _ | refine Below.setCell (p := ⟨w1.heap.size, 1, none⟩) ?_ (Nat.le_refl _) _))⟩) (first | (go_at_call 103; (with_reducible refine (parse_calls (strOfNums (d.line.take j)) w1.drew VD.out HSS.out).mono ?_); rintro e w2 ⟨rfl, hb2⟩; rw [HPE.out]; have hw2 : Below w1.heap.size w1 w2 := (below_then (Drawn0.below ⟨1, rfl⟩) (by simp) hb2); have k8 : w2.cell? ⟨g, 8, none⟩ = some (.slice A (j + 2) k) := ((hb2.cell (p := ⟨g, 8, none⟩) HG.out).trans c8)) | (go_at_call 103; (with_reducible refine (parse_calls (strOfNums (d.line.take j)) (w1.alloc (.cells #[.string ⟨#[]⟩, .string ⟨#[]⟩] 53)).drew VA.out HSS.out).mono ?_); rintro e w2 ⟨rfl, hb2⟩; rw [HPE.out]; have hw2 : Below w1.heap.size w1 w2 := (below_then (below_drew ((Below.refl w1.heap.size w1).alloc (Nat.le_refl _) _)) (by simp) hb2); have k8 : w2.cell? ⟨g, 8, none⟩ = some (.slice A (j + 2) k) := ((hb2.cell (p := ⟨g, 8, none⟩) HGA.out.1).trans HGA.out.2.1); have m0 : w2.cell? ⟨w1.heap.size, 0, none⟩ = some (.string ⟨#[]⟩) := (hb2.cell (p := ⟨w1.heap.size, 0, none⟩) HGA.out.2.2).trans (World.cell?_alloc_new w1 #[.string ⟨#[]⟩, .string ⟨#[]⟩] 53 0); have m1 : w2.cell? ⟨w1.heap.size, 1, none⟩ = some (.string ⟨#[]⟩) := (hb2.cell (p := ⟨w1.heap.size, 1, none⟩) HGA.out.2.2).trans (World.cell?_alloc_new w1 #[.string ⟨#[]⟩, .string ⟨#[]⟩] 53 1); have n0 : w2.frozen? ⟨w1.heap.size, 0, none⟩ = false := (hb2.frozen (p := ⟨w1.heap.size, 0, none⟩) HGA.out.2.2).trans FZ.out.1; have n1 : w2.frozen? ⟨w1.heap.size, 1, none⟩ = false := (hb2.frozen (p := ⟨w1.heap.size, 1, none⟩) HGA.out.2.2).trans FZ.out.2))
  · have hBW : Below w1.heap.size w1 (w2.alloc (.cells #[.string f0, .string f1] 53)) := ((below_then (Drawn0.below ⟨1, rfl⟩) (by simp) hb2).alloc (Nat.le_trans (by simp) hb2.size) _)
    have q0 : (w2.alloc (.cells #[.string f0, .string f1] 53)).cell? ⟨w2.heap.size, 0, none⟩ = some (.string f0) := World.cell?_alloc_new w2 #[.string f0, .string f1] 53 0
    have q1 : (w2.alloc (.cells #[.string f0, .string f1] 53)).cell? ⟨w2.heap.size, 1, none⟩ = some (.string f1) := World.cell?_alloc_new w2 #[.string f0, .string f1] 53 1
    generalize (w2.alloc (.cells #[.string f0, .string f1] 53)) = W at *
    have M2 := Aside0.mk (M1.out.below hBW)
    have R2 := Aside0.mk (R1.out.below hBW)
    have d9 := R2.out.get_fields
    have d8 := R2.out.get_line
    have z9 := M2.out.frozen 9
    have z8 := M2.out.frozen 8
    have HQ : Aside0 (some w2.heap.size ≠ vf.ownBlock) := ⟨fun e => by have h1 := own_lt (Kd.R_own R1.out.2.2.2).choose_spec _ e.symm; have h2 := hb2.size; simp at h2; omega⟩
    clear c8 c9 hb2 hBW hne1 hw1 hk' hj0
    try clear k8 hw2
    try clear m0 m1 n0 n1
    have HSZ : Aside0 (W.heap.size = W.heap.size) := ⟨rfl⟩
    have HLL : Aside0 ((d.fields.length + 1) * 32 ≤ 140737488355328) := ⟨by have := HO.out.flen; have := HO.out.lines1; omega⟩
    have HMM : Aside0 (k53.M W.drew B (fun _ => False) (⟨f0, f1⟩ : S53) [.string f0, .string f1]) := ⟨k53_mkM W.drew B (fun _ => False) ⟨f0, f1⟩⟩
    have hne2 := World.new_ne W ⟨g, 9, none⟩ d9
    have hne3 := World.new_ne W _ q0
    have d9a : (W.alloc (.cells #[.string f0, .string f1] 53)).cell? ⟨g, 9, none⟩ = some vf := (World.cell?_alloc_lt W _ ⟨g, 9, none⟩ M2.out.1.lt).trans d9
    go_wp2_with fail
    go_region_law ((refine R_append_step_at k53 (w0 := w) (W := W) B (by rfl) (.tmp 36) (.tmp 38) 37 53 (.agg #[.string ⟨#[]⟩, .string ⟨#[]⟩]) 32 (by rfl) Tryd.underlying37 info53 rfl (by decide) (by decide) vf d.fields ⟨f0, f1⟩ [.string f0, .string f1] (fun k => S k ∨ w.heap.size ≤ k) (fun _ => False) W.heap.size (by rfl) (by rfl) rfl HMM.out (fun _ h => h.elim) (fun k hk => .inr (Nat.le_trans M2.out.2.2.1 hk)) R2.out.2.2.2 M2.out.2.1 M2.out.le HLL.out ?_; intro v1 w3 hR3 hB3 hg3; obtain ⟨A1, n1, k1, rfl⟩ := R_form hR3; have M3 := Aside0.mk (M2.out.appendedF R2.out hR3 hB3 hg3); have hb3 := R2.out.grownF hg3; have x9 : w3.cell? ⟨g, 9, none⟩ = some vf := (by simp [World.cell?, hb3, dcCells]); have x8 : w3.cell? ⟨g, 8, none⟩ = some (.slice A (j + 2) k) := (by simp [World.cell?, hb3, dcCells]); have y9 : w3.frozen? ⟨g, 9, none⟩ = false := (by simp [World.frozen?, hb3]); have y8 : w3.frozen? ⟨g, 8, none⟩ = false := (by simp [World.frozen?, hb3]); have u0 : w3.cell? ⟨w2.heap.size, 0, none⟩ = some (.string f0) := (World.cell?_of_block (hg3.block _ (World.block_lt_of_cell? W _ q0) HQ.out)).trans q0; clear hR3 hB3 hg3 hb3))
    all_goals go_wp2_with fail
    all_goals go_ret
    all_goals (refine ⟨rfl, ?_⟩; rw [HE.out]; exact M3.out.lineNil)
  · have hBW : Below w1.heap.size w1 ((w2.setCell ⟨w1.heap.size, 0, none⟩ (.string f0)).setCell ⟨w1.heap.size, 1, none⟩ (.string f1)) := (((below_then (below_drew ((Below.refl w1.heap.size w1).alloc (Nat.le_refl _) _)) (by simp) hb2).setCell (p := ⟨w1.heap.size, 0, none⟩) (Nat.le_refl _) _).setCell (p := ⟨w1.heap.size, 1, none⟩) (Nat.le_refl _) _)
    have q0 : ((w2.setCell ⟨w1.heap.size, 0, none⟩ (.string f0)).setCell ⟨w1.heap.size, 1, none⟩ (.string f1)).cell? ⟨w1.heap.size, 0, none⟩ = some (.string f0) := (two_cells m0 m1 _ _).1
    have q1 : ((w2.setCell ⟨w1.heap.size, 0, none⟩ (.string f0)).setCell ⟨w1.heap.size, 1, none⟩ (.string f1)).cell? ⟨w1.heap.size, 1, none⟩ = some (.string f1) := (two_cells m0 m1 _ _).2
    generalize ((w2.setCell ⟨w1.heap.size, 0, none⟩ (.string f0)).setCell ⟨w1.heap.size, 1, none⟩ (.string f1)) = W at *
    have M2 := Aside0.mk (M1.out.below hBW)
    have R2 := Aside0.mk (R1.out.below hBW)
    have d9 := R2.out.get_fields
    have d8 := R2.out.get_line
    have z9 := M2.out.frozen 9
    have z8 := M2.out.frozen 8
    have HQ : Aside0 (some w1.heap.size ≠ vf.ownBlock) := ⟨fun e => by have h1 := own_lt (Kd.R_own R1.out.2.2.2).choose_spec _ e.symm; omega⟩
    clear c8 c9 hb2 hBW hne1 hw1 hk' hj0
    try clear k8 hw2
    try clear m0 m1 n0 n1
    have HSZ : Aside0 (W.heap.size = W.heap.size) := ⟨rfl⟩
    have HLL : Aside0 ((d.fields.length + 1) * 32 ≤ 140737488355328) := ⟨by have := HO.out.flen; have := HO.out.lines1; omega⟩
    have HMM : Aside0 (k53.M W.drew B (fun _ => False) (⟨f0, f1⟩ : S53) [.string f0, .string f1]) := ⟨k53_mkM W.drew B (fun _ => False) ⟨f0, f1⟩⟩
    have hne2 := World.new_ne W ⟨g, 9, none⟩ d9
    have hne3 := World.new_ne W _ q0
    have d9a : (W.alloc (.cells #[.string f0, .string f1] 53)).cell? ⟨g, 9, none⟩ = some vf := (World.cell?_alloc_lt W _ ⟨g, 9, none⟩ M2.out.1.lt).trans d9
    go_wp2_with fail
    go_region_law ((refine R_append_step_at k53 (w0 := w) (W := W) B (by rfl) (.tmp 36) (.tmp 38) 37 53 (.agg #[.string ⟨#[]⟩, .string ⟨#[]⟩]) 32 (by rfl) Tryd.underlying37 info53 rfl (by decide) (by decide) vf d.fields ⟨f0, f1⟩ [.string f0, .string f1] (fun k => S k ∨ w.heap.size ≤ k) (fun _ => False) W.heap.size (by rfl) (by rfl) rfl HMM.out (fun _ h => h.elim) (fun k hk => .inr (Nat.le_trans M2.out.2.2.1 hk)) R2.out.2.2.2 M2.out.2.1 M2.out.le HLL.out ?_; intro v1 w3 hR3 hB3 hg3; obtain ⟨A1, n1, k1, rfl⟩ := R_form hR3; have M3 := Aside0.mk (M2.out.appendedF R2.out hR3 hB3 hg3); have hb3 := R2.out.grownF hg3; have x9 : w3.cell? ⟨g, 9, none⟩ = some vf := (by simp [World.cell?, hb3, dcCells]); have x8 : w3.cell? ⟨g, 8, none⟩ = some (.slice A (j + 2) k) := (by simp [World.cell?, hb3, dcCells]); have y9 : w3.frozen? ⟨g, 9, none⟩ = false := (by simp [World.frozen?, hb3]); have y8 : w3.frozen? ⟨g, 8, none⟩ = false := (by simp [World.frozen?, hb3]); have u0 : w3.cell? ⟨w1.heap.size, 0, none⟩ = some (.string f0) := (World.cell?_of_block (hg3.block _ (World.block_lt_of_cell? W _ q0) HQ.out)).trans q0; clear hR3 hB3 hg3 hb3))
    all_goals go_wp2_with fail
    all_goals go_ret
    all_goals (refine ⟨rfl, ?_⟩; rw [HE.out]; exact M3.out.lineNil)

set_option maxRecDepth 100000 in
theorem line_calls {B g : Nat} {S : Nat → Prop} {d : Dc} {w : World} (h : DcAt w B g S d) (hB : 2 ≤ B) (hv : Vars w) (hok : DcOk d) (hl : 1 ≤ d.line.length) (c : Int) :
    Calls Tryd.prog 84 #[.pointer (some ⟨g, 0, none⟩), .int .u8 c] w (MPost w B g S (dLine d c)) := by
  by_cases hc : c = 10
  · subst hc
    by_cases hs : d.size ≥ d.byts
    · have HP := Aside0.mk (show dLine d 10 = (d, 5) by unfold dLine; rw [if_neg (by simp), if_pos hs])
      rw [HP.out]
      clear HP
      go_enter Tryd.func84, Tryd.ntmps84
      go_wp2_with (go_at_call 102; refine (more_no h 10 6 hs).mono ?_; rintro e w' ⟨rfl, hm⟩)
      go_ret
      exact ⟨rfl, hm⟩
    · have HP := Aside0.mk (show dLine d 10 = _ by unfold dLine; rw [if_neg (by simp), if_neg hs])
      rw [HP.out]
      exact line_ok h hB hv hok hl (by omega)
  · have HP := Aside0.mk (show dLine d c = (d, 2) by unfold dLine; rw [if_pos hc])
    rw [HP.out]
    have b : (c != 10) = true := bne_iff_ne.mpr hc
    have M := Aside0.mk (Mid.start h)
    clear HP hc h
    go_enter Tryd.func84, Tryd.ntmps84
    go_wp2_with fail
    go_ret
    exact ⟨rfl, M.out⟩
end Go.Proofs.YtebjfgkgfgbndaaDoor

namespace Go.Proofs.YtebjfgkgfgbndaaDoor
open Go.RowKit Go.Proofs.YtebjfgkgfgbndaaDoorW.PrintWords Go.Proofs.YtebjfgkgfgbndaaDoorW.PrintLast Go.Proofs.YtebjfgkgfgbndaaDoorW.PrintMore
open PBodyScans
set_option linter.unusedVariables false
set_option linter.unusedSimpArgs false

def dStep (d : Dc) (c : Int) : Dc × Int :=
  if d.place = 0 then dDigit d c else if d.place = 1 then dExt d c else if d.place = 2 then dBegun d c else if d.place = 4 then dClosed d c
  else if d.place = 5 then dAgain d c else if d.place = 6 then dFirst d c else if d.place = 7 then dNamed d c else if d.place = 8 then dValued d c
  else if d.place = 9 then dLine d c else dFinish d c

structure DInv (d : Dc) : Prop where
  ok : DcOk d
  p0 : 0 ≤ d.place
  p1 : d.place ≤ 11
  c0 : d.place = 0 → d.count ≤ 16
  n3 : d.place = 3 → 1 ≤ d.n
  l9 : d.place = 9 → 1 ≤ d.line.length
  fl : 7 ≤ d.place ∧ d.place ≤ 9 → (d.fields.length : Int) + 1 ≤ d.lines

theorem DInv.e {d : Dc} (h : DInv d) (x : Int) : DInv { d with e := x } := by
  obtain ⟨⟨a1, a2, a3, a4, a5, a6, a7, a8, a9, a10, a11, a12, a13, a14, a15, a16⟩, b1, b2, b3, b4, b5, b6⟩ := h
  exact ⟨⟨a1, a2, a3, a4, a5, a6, a7, a8, a9, a10, a11, a12, a13, a14, a15, a16⟩, b1, b2, b3, b4, b5, b6⟩

theorem dMore_inv {d : Dc} (h : DInv d) (c p : Int) (hp : 6 ≤ p ∧ p ≤ 9) (hf : 7 ≤ p → (d.fields.length : Int) + 1 ≤ d.lines) : DInv (dMore d c p).1 := by
  unfold dMore
  split
  · exact h
  · rename_i hs
    obtain ⟨⟨a1, a2, a3, a4, a5, a6, a7, a8, a9, a10, a11, a12, a13, a14, a15, a16⟩, b1, b2, b3, b4, b5, b6⟩ := h
    refine ⟨⟨a1, a2, a3, a4, a5, a6, a7, a8, a9, a10, a11, a12, ?_, ?_, ?_, a16⟩, ?_, ?_, ?_, ?_, ?_, ?_⟩
    · show 0 ≤ d.size + 1; omega
    · show d.size + 1 ≤ 65536; omega
    · show ((d.line ++ [c]).length : Int) ≤ d.size + 1
      rw [List.length_append]
      simp only [List.length_cons, List.length_nil]
      omega
    · show 0 ≤ p; omega
    · show p ≤ 11; omega
    · intro h0; exfalso; have : p = 0 := h0; omega
    · intro h0; exfalso; have : p = 3 := h0; omega
    · intro _; show 1 ≤ (d.line ++ [c]).length; rw [List.length_append]; simp
    · intro h0; have h1 : 7 ≤ p := h0.1; exact hf h1

theorem dTo_inv {d : Dc} (h : DInv d) (p : Int) (ok : Bool) (h0 : 0 ≤ p) (h1 : p ≤ 11) (hc : p = 0 → d.count ≤ 16) (h3 : p = 3 → 1 ≤ d.n) (h7 : ¬ (7 ≤ p ∧ p ≤ 9)) : DInv (dTo d p ok).1 := by
  unfold dTo
  split
  · obtain ⟨⟨a1, a2, a3, a4, a5, a6, a7, a8, a9, a10, a11, a12, a13, a14, a15, a16⟩, b1, b2, b3, b4, b5, b6⟩ := h
    exact ⟨⟨a1, a2, a3, a4, a5, a6, a7, a8, a9, a10, a11, a12, a13, a14, a15, a16⟩, h0, h1, hc, h3, fun e => absurd e (by show ¬ p = 9; omega), fun e => absurd e h7⟩
  · exact h

theorem dExt_inv {d : Dc} (h : DInv d) (hp : d.place = 1) (c : Int) : DInv (dExt d c).1 := by
  unfold dExt
  split
  · exact dTo_inv h 2 true (by omega) (by omega) (by omega) (by omega) (by omega)
  · split
    · exact h
    · split
      · exact h
      · obtain ⟨⟨a1, a2, a3, a4, a5, a6, a7, a8, a9, a10, a11, a12, a13, a14, a15, a16⟩, b1, b2, b3, b4, b5, b6⟩ := h
        refine ⟨⟨a1, a2, a3, a4, a5, a6, a7, a8, ?_, ?_, a11, a12, a13, a14, a15, a16⟩, b1, b2, ?_, b4, b5, b6⟩
        · show 0 ≤ d.count + 1; omega
        · show d.count + 1 ≤ 65536; omega
        · intro e; exfalso; have : d.place = 0 := e; omega

theorem more_range (n c : Int) (h0 : 0 ≤ n) : (moreN n c).2 = 0 → 0 ≤ (moreN n c).1 ∧ (moreN n c).1 ≤ 4611686018427387903 := by
  unfold moreN
  have hr := digV_range c
  split
  · intro h; simp at h
  · split
    · intro h; simp at h
    · intro _
      show 0 ≤ 16 * n + digV c ∧ 16 * n + digV c ≤ 4611686018427387903
      omega

theorem dDigit_inv {d : Dc} (h : DInv d) (hp : d.place = 0) (c : Int) : DInv (dDigit d c).1 := by
  have hc0 := h.c0 hp
  unfold dDigit
  split
  · split
    · exact h
    · rename_i hn
      have hm := more_range d.n c h.ok.n0 (by by_cases he : (moreN d.n c).2 = 0; exact he; exact absurd (.inr he) hn)
      have hc16 : d.count ≠ 16 := fun e => hn (.inl e)
      obtain ⟨⟨a1, a2, a3, a4, a5, a6, a7, a8, a9, a10, a11, a12, a13, a14, a15, a16⟩, b1, b2, b3, b4, b5, b6⟩ := h
      refine ⟨⟨a1, a2, a3, a4, a5, a6, hm.1, hm.2, ?_, ?_, a11, a12, a13, a14, a15, a16⟩, b1, b2, ?_, ?_, b5, b6⟩
      · show 0 ≤ d.count + 1; omega
      · show d.count + 1 ≤ 65536; omega
      · intro _; show d.count + 1 ≤ 16; omega
      · intro e; exfalso; have : d.place = 3 := e; omega
  · split
    · exact h
    · have h1 : DInv { d with count := 0, place := 1 } := by
        obtain ⟨⟨a1, a2, a3, a4, a5, a6, a7, a8, a9, a10, a11, a12, a13, a14, a15, a16⟩, b1, b2, b3, b4, b5, b6⟩ := h
        exact ⟨⟨a1, a2, a3, a4, a5, a6, a7, a8, Int.le_refl 0, by show (0 : Int) ≤ 65536; omega, a11, a12, a13, a14, a15, a16⟩, by show (0 : Int) ≤ 1; omega, by show (1 : Int) ≤ 11; omega, fun e => absurd e (by show ¬ (1 : Int) = 0; omega), fun e => absurd e (by show ¬ (1 : Int) = 3; omega), fun e => absurd e (by show ¬ (1 : Int) = 9; omega), fun e => absurd e (by show ¬ ((7 : Int) ≤ 1 ∧ (1 : Int) ≤ 9); omega)⟩
      have h2 := dExt_inv h1 rfl c
      split
      · split
        · obtain ⟨⟨a1, a2, a3, a4, a5, a6, a7, a8, a9, a10, a11, a12, a13, a14, a15, a16⟩, b1, b2, b3, b4, b5, b6⟩ := h2
          exact ⟨⟨a1, a2, a3, a4, a5, a6, a7, a8, by show (0 : Int) ≤ 1; omega, by show (1 : Int) ≤ 65536; omega, a11, a12, a13, a14, a15, a16⟩, by show (0 : Int) ≤ 0; omega, by show (0 : Int) ≤ 11; omega, fun _ => by show (1 : Int) ≤ 16; omega, fun e => absurd e (by show ¬ (0 : Int) = 3; omega), fun e => absurd e (by show ¬ (0 : Int) = 9; omega), fun e => absurd e (by show ¬ ((7 : Int) ≤ 0 ∧ (0 : Int) ≤ 9); omega)⟩
        · exact h2
      · exact dTo_inv h 2 _ (by omega) (by omega) (by omega) (by omega) (by omega)

theorem dStep_inv {d : Dc} (h : DInv d) (h3 : d.place ≠ 3) (h11 : d.place ≠ 11) (c : Int) : DInv (dStep d c).1 := by
  have hp0 := h.p0
  have hp1 := h.p1
  unfold dStep
  by_cases e0 : d.place = 0
  · rw [if_pos e0]; exact dDigit_inv h e0 c
  rw [if_neg e0]
  by_cases e1 : d.place = 1
  · rw [if_pos e1]; exact dExt_inv h e1 c
  rw [if_neg e1]
  by_cases e2 : d.place = 2
  · rw [if_pos e2]; unfold dBegun
    have hn0 := h.ok.n0
    split
    · exact dTo_inv h 6 _ (by omega) (by omega) (by omega) (by omega) (by omega)
    · exact dTo_inv h 3 _ (by omega) (by omega) (by omega) (by omega) (by omega)
  rw [if_neg e2]
  by_cases e4 : d.place = 4
  · rw [if_pos e4]; exact dTo_inv h 5 _ (by omega) (by omega) (by omega) (by omega) (by omega)
  rw [if_neg e4]
  by_cases e5 : d.place = 5
  · rw [if_pos e5]; unfold dAgain
    have h1 : DInv { d with count := 0 } := by
      obtain ⟨⟨a1, a2, a3, a4, a5, a6, a7, a8, a9, a10, a11, a12, a13, a14, a15, a16⟩, b1, b2, b3, b4, b5, b6⟩ := h
      exact ⟨⟨a1, a2, a3, a4, a5, a6, a7, a8, Int.le_refl 0, by show (0 : Int) ≤ 65536; omega, a11, a12, a13, a14, a15, a16⟩, b1, b2, fun _ => by show (0 : Int) ≤ 16; omega, b4, b5, b6⟩
    exact dTo_inv h1 0 _ (by omega) (by omega) (fun _ => by show (0 : Int) ≤ 16; omega) (by omega) (by omega)
  rw [if_neg e5]
  by_cases e6 : d.place = 6
  · rw [if_pos e6]; unfold dFirst
    split
    · exact dTo_inv h 10 true (by omega) (by omega) (by omega) (by omega) (by omega)
    · split
      · exact h
      · split
        · exact h
        · rename_i hl
          by_cases hs : d.size ≥ d.byts
          · have e : dMore d c 7 = (d, 5) := by unfold dMore; rw [if_pos hs]
            rw [e]
            simp only [if_neg (show ¬ (5 : Int) = 0 by omega)]
            exact h
          · have e : dMore d c 7 = ({ d with size := d.size + 1, line := d.line ++ [c], place := 7 }, 0) := by unfold dMore; rw [if_neg hs]
            rw [e]
            simp only [if_true]
            have hfl := h.ok.flen
            obtain ⟨⟨a1, a2, a3, a4, a5, a6, a7, a8, a9, a10, a11, a12, a13, a14, a15, a16⟩, b1, b2, b3, b4, b5, b6⟩ := h
            refine ⟨⟨a1, a2, a3, a4, a5, a6, a7, a8, a9, a10, ?_, ?_, ?_, ?_, ?_, ?_⟩, ?_, ?_, ?_, ?_, ?_, ?_⟩
            · show 0 ≤ d.lines + 1; omega
            · show d.lines + 1 ≤ 65536; omega
            · show 0 ≤ d.size + 1; omega
            · show d.size + 1 ≤ 65536; omega
            · show ((d.line ++ [c]).length : Int) ≤ d.size + 1
              rw [List.length_append]
              simp only [List.length_cons, List.length_nil]
              omega
            · show (d.fields.length : Int) ≤ d.lines + 1; omega
            · show (0 : Int) ≤ 7; omega
            · show (7 : Int) ≤ 11; omega
            · intro e; exact absurd e (by show ¬ (7 : Int) = 0; omega)
            · intro e; exact absurd e (by show ¬ (7 : Int) = 3; omega)
            · intro e; exact absurd e (by show ¬ (7 : Int) = 9; omega)
            · intro _; show (d.fields.length : Int) + 1 ≤ d.lines + 1; omega
  rw [if_neg e6]
  by_cases e7 : d.place = 7
  · rw [if_pos e7]; unfold dNamed
    have hf := h.fl (by omega)
    split
    · exact dMore_inv h c 8 (by omega) (fun _ => hf)
    · split
      · exact h
      · exact dMore_inv h c 7 (by omega) (fun _ => hf)
  rw [if_neg e7]
  by_cases e8 : d.place = 8
  · rw [if_pos e8]; unfold dValued
    have hf := h.fl (by omega)
    split
    · exact dMore_inv h c 9 (by omega) (fun _ => hf)
    · split
      · exact h
      · exact dMore_inv h c 8 (by omega) (fun _ => hf)
  rw [if_neg e8]
  by_cases e9 : d.place = 9
  · rw [if_pos e9]; unfold dLine
    have hf := h.fl (by omega)
    split
    · exact h
    · split
      · exact h
      · obtain ⟨⟨a1, a2, a3, a4, a5, a6, a7, a8, a9, a10, a11, a12, a13, a14, a15, a16⟩, b1, b2, b3, b4, b5, b6⟩ := h
        refine ⟨⟨a1, a2, a3, a4, a5, a6, a7, a8, a9, a10, a11, a12, ?_, ?_, ?_, ?_⟩, ?_, ?_, ?_, ?_, ?_, ?_⟩
        · show 0 ≤ d.size + 1; omega
        · show d.size + 1 ≤ 65536; omega
        · show ((([] : List Int).length : Nat) : Int) ≤ d.size + 1; simp only [List.length_nil]; omega
        · show ((d.fields ++ [_]).length : Int) ≤ d.lines
          rw [List.length_append]
          simp only [List.length_cons, List.length_nil]
          omega
        · show (0 : Int) ≤ 6; omega
        · show (6 : Int) ≤ 11; omega
        · intro e; exact absurd e (by show ¬ (6 : Int) = 0; omega)
        · intro e; exact absurd e (by show ¬ (6 : Int) = 3; omega)
        · intro e; exact absurd e (by show ¬ (6 : Int) = 9; omega)
        · intro e; exact absurd e (by show ¬ ((7 : Int) ≤ 6 ∧ (6 : Int) ≤ 9); omega)
  rw [if_neg e9]
  exact dTo_inv h 11 _ (by omega) (by omega) (by omega) (by omega) (by omega)
end Go.Proofs.YtebjfgkgfgbndaaDoor
