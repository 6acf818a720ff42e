/- The functions octet.Text, Token, Trim, Value, field.Right and field.Parse: contracts (walks) over this seat's translation. -/
import Derived.Test.YtebjfgkgfgbndaaDoorHa
namespace Go.Proofs.YtebjfgkgfgbndaaDoor
open Go.RowKit Go.Proofs.YtebjfgkgfgbndaaDoorW.PrintWords Go.Proofs.YtebjfgkgfgbndaaDoorW.PrintLast Go.Proofs.YtebjfgkgfgbndaaDoorW.PrintMore

def textS (s : ByteArray) : Bool := (bytesOf s).all textB
def tokenS (s : ByteArray) : Bool := s.size != 0 && (bytesOf s).all tokenB
def trimS (s : ByteArray) : ByteArray := ⟨(Lib.trimS s.data.toList [32, 9]).toArray⟩
def valueS (s : ByteArray) : Bool := textS s && (trimS s).toList == s.toList
def rightS (n v : ByteArray) : Bool := tokenS n && valueS v

theorem trimS_size (s : ByteArray) : (trimS s).size ≤ s.size := by
  have h : ∀ l : List UInt8, (Lib.trimS l [32, 9]).length ≤ l.length := fun l => by
    unfold Lib.trimS Lib.trimLeftS Lib.trimRightS
    have h1 := (List.dropWhile_suffix (l := l.reverse) ([32, 9].contains ·)).length_le
    have h2 := (List.dropWhile_suffix (l := (List.dropWhile ([32, 9].contains ·) l.reverse).reverse) ([32, 9].contains ·)).length_le
    simp only [List.length_reverse] at h1 h2
    omega
  have h2 := h s.data.toList
  rw [Lib.size_eq s, Lib.size_eq (trimS s)]
  exact h2

theorem text_calls (s : ByteArray) (w : World) (hl : EndsAt w) (hs : s.size ≤ 9223372036854775806) :
    Calls Tryd.prog 100 #[.string s] w fun e w' => e = .returned (.bool (textS s)) ∧ Below w.heap.size w w' := by
  go_enter Tryd.func100, Tryd.ntmps100
  go_wp2_with (go_at_call 114; refine (all115_calls s w hl hs).mono ?_; rintro e w' ⟨rfl, hb⟩)
  go_ret
  exact ⟨rfl, hb⟩

theorem token_calls (s : ByteArray) (w : World) (hl : EndsAt w) (hs : s.size ≤ 9223372036854775806) :
    Calls Tryd.prog 101 #[.string s] w fun e w' => e = .returned (.bool (tokenS s)) ∧ Below w.heap.size w w' := by
  by_cases h : s.size = 0
  · have HT := Aside0.mk (show tokenS s = false by simp [tokenS, h])
    have h1 : s.toList = [] := by rw [Lib.toList_data]; exact List.eq_nil_of_length_eq_zero (by rw [← Lib.size_eq]; exact h)
    have h2 : s.toList.isEmpty = true := by rw [h1]; rfl
    clear h
    go_enter Tryd.func101, Tryd.ntmps101
    go_wp2_with fail
    go_ret
    exact ⟨by rw [HT.out]; rfl, Below.refl _ _⟩
  · have HT := Aside0.mk (show tokenS s = (bytesOf s).all tokenB by simp [tokenS, h])
    have h0 : s.toList ≠ [] := by
      rw [Lib.toList_data]
      intro e
      exact h (by rw [Lib.size_eq, e]; rfl)
    have h1 : s.toList.isEmpty = false := by simpa using h0
    clear h h0
    go_enter Tryd.func101, Tryd.ntmps101
    go_wp2_with (go_at_call 114; refine (all117_calls s w hl hs).mono ?_; rintro e w' ⟨rfl, hb⟩)
    go_ret
    exact ⟨by rw [HT.out]; rfl, hb⟩

theorem trim_calls (s : ByteArray) (w : World) (hs : s.size ≤ 9223372036854775806) :
    Calls Tryd.prog 120 #[.string s] w fun e w' => e = .returned (.string (trimS s)) ∧ Below w.heap.size w w' := by
  go_enter Tryd.func120, Tryd.ntmps120
  go_wp2_with (go_at_call 133; refine (Any.strings_Trim_laid Tryd.lays160 (by kernel_rfl) s ⟨#[32, 9]⟩ w (by omega) (by decide) (ascii_of_all (by decide))).mono ?_; rintro e w' ⟨rfl, hb⟩)
  go_ret
  exact ⟨rfl, hb⟩

theorem value_calls (s : ByteArray) (w : World) (hl : EndsAt w) (hs : s.size ≤ 9223372036854775806) :
    Calls Tryd.prog 134 #[.string s] w fun e w' => e = .returned (.bool (valueS s)) ∧ Below w.heap.size w w' := by
  cases ht : textS s with
  | false =>
    have HT := Aside0.mk (show valueS s = false by simp [valueS, ht])
    have H1 := Aside0.mk ht
    clear ht
    go_enter Tryd.func134, Tryd.ntmps134
    go_wp2_with (go_at_call 100; refine (text_calls s w hl hs).mono ?_; rintro e w' ⟨rfl, hb⟩; rw [H1.out])
    go_ret
    exact ⟨by rw [HT.out]; rfl, hb⟩
  | true =>
    have HT := Aside0.mk (show valueS s = ((trimS s).toList == s.toList) by simp [valueS, ht])
    have H1 := Aside0.mk ht
    clear ht
    go_enter Tryd.func134, Tryd.ntmps134
    go_wp2_with (first | (go_at_call 100; refine (text_calls s w hl hs).mono ?_; rintro e w' ⟨rfl, hb⟩; rw [H1.out]) | (go_at_call 120; refine (trim_calls s _ hs).mono ?_; rintro e w2 ⟨rfl, hb2⟩))
    go_ret
    exact ⟨by rw [HT.out]; rfl, below_then hb hb.size hb2⟩
theorem right_calls (n v : ByteArray) (w : World) (hl : EndsAt w) (hn : n.size ≤ 9223372036854775806) (hv : v.size ≤ 9223372036854775806) :
    Calls Tryd.prog 121 #[.agg #[.string n, .string v]] w fun e w' => e = .returned (.bool (rightS n v)) ∧ Below w.heap.size w w' := by
  cases ht : tokenS n with
  | false =>
    have HT := Aside0.mk (show rightS n v = false by simp [rightS, ht])
    have H1 := Aside0.mk ht
    have HL := Aside0.mk hl
    clear ht hl
    go_enter Tryd.func121, Tryd.ntmps121
    go_wp2_with (go_at_call 101; refine (token_calls n _ (HL.out.below ((Below.refl _ _).alloc (Nat.le_refl _) _)) hn).mono ?_; rintro e w' ⟨rfl, hb⟩; rw [H1.out])
    go_ret
    exact ⟨by rw [HT.out]; rfl, below_then ((Below.refl _ _).alloc (Nat.le_refl _) _) (by simp) hb⟩
  | true =>
    have HT := Aside0.mk (show rightS n v = valueS v by simp [rightS, ht])
    have H1 := Aside0.mk ht
    have HL := Aside0.mk hl
    clear ht hl
    go_enter Tryd.func121, Tryd.ntmps121
    go_wp2_with fail
    refine (token_calls n _ (HL.out.below ((Below.refl _ _).alloc (Nat.le_refl _) _)) hn).mono ?_
    rintro e w1 ⟨rfl, hb⟩
    rw [H1.out]
    have hc : w1.cell? ⟨w.heap.size, 1, none⟩ = some (.string v) := (hb.cell (p := ⟨w.heap.size, 1, none⟩) (by simp)).trans (World.cell?_alloc_new w #[.string n, .string v] 53 1)
    have hb' : Below w.heap.size w w1 := below_then ((Below.refl _ _).alloc (Nat.le_refl _) _) (by simp) hb
    have HB := Aside0.mk hb'
    clear hb hb'
    go_wp2_with (go_at_call 134; refine (value_calls v _ (HL.out.below HB.out) hv).mono ?_; rintro e w2 ⟨rfl, hb2⟩)
    go_ret
    exact ⟨by rw [HT.out]; rfl, below_then HB.out HB.out.size hb2⟩

def strL (l : List UInt8) : ByteArray := ⟨l.toArray⟩
def cutN (s : ByteArray) : ByteArray := strL (Lib.cut s.data.toList [58]).1
def cutV (s : ByteArray) : ByteArray := trimS (strL (Lib.cut s.data.toList [58]).2.1)
def cutOk (s : ByteArray) : Bool := (Lib.cut s.data.toList [58]).2.2
def parseOk (s : ByteArray) : Bool := cutOk s && rightS (cutN s) (cutV s)

def parseRet (s : ByteArray) : Value := .tuple (if parseOk s = true then #[.agg #[.string (cutN s), .string (cutV s)], .int .i64 0] else #[.agg #[.string ⟨#[]⟩, .string ⟨#[]⟩], .int .i64 2])
theorem parseRet_ok {s : ByteArray} (h : parseOk s = true) : parseRet s = .tuple #[.agg #[.string (cutN s), .string (cutV s)], .int .i64 0] := by simp [parseRet, h]
theorem parseRet_no {s : ByteArray} (h : parseOk s = false) : parseRet s = .tuple #[.agg #[.string ⟨#[]⟩, .string ⟨#[]⟩], .int .i64 2] := by simp [parseRet, h]

theorem strL_size (l : List UInt8) : (strL l).size = l.length := by simp [strL, ByteArray.size]
theorem cutN_size (s : ByteArray) : (cutN s).size ≤ s.size := by
  rw [cutN, strL_size, Lib.size_eq s]
  unfold Lib.cut
  split
  · exact (List.take_sublist _ _).length_le
  · exact Nat.le_refl _
theorem cutR_size (s : ByteArray) : (strL (Lib.cut s.data.toList [58]).2.1).size ≤ s.size := by
  rw [strL_size, Lib.size_eq s]
  unfold Lib.cut
  split
  · exact (List.drop_sublist _ _).length_le
  · exact Nat.zero_le _

/-- The package's variables as the walks need them: octet.ends, and bytealg.MaxLen some int. -/
def Vars (w : World) : Prop := EndsAt w ∧ ∃ m, w.cell? ⟨1, 0, none⟩ = some (.int .i64 m)
theorem Vars.below {w w' : World} (h : Vars w) (hb : Below w.heap.size w w') : Vars w' := ⟨h.1.below hb, h.2.imp fun _ hm => (hb.cell (World.block_lt_of_cell? w _ hm)).trans hm⟩

theorem below_drawn {B : Nat} {w w' w2 : World} (h : Below B w w') (hd : ∃ n, w2 = w'.drewN n) : Below B w w2 := by
  obtain ⟨n, rfl⟩ := hd
  exact pw_below_drewN h n
theorem below_alloc' {B : Nat} {w w' : World} (h : Below B w w') (hB : B ≤ w.heap.size) (o : Obj) : Below B w (w'.alloc o) := h.alloc (Nat.le_trans hB h.size) o

theorem froz_alloc (w : World) (o : Obj) (a : Addr) (h : a.block < w.heap.size) : (w.alloc o).frozen? a = w.frozen? a := ((Below.refl w.heap.size w).alloc (Nat.le_refl _) o).frozen (p := a) h
theorem two_cells {W : World} {b : Nat} {x0 x1 : Value} (h0 : W.cell? ⟨b, 0, none⟩ = some x0) (h1 : W.cell? ⟨b, 1, none⟩ = some x1) (v0 v1 : Value) :
    ((W.setCell ⟨b, 0, none⟩ v0).setCell ⟨b, 1, none⟩ v1).cell? ⟨b, 0, none⟩ = some v0 ∧ ((W.setCell ⟨b, 0, none⟩ v0).setCell ⟨b, 1, none⟩ v1).cell? ⟨b, 1, none⟩ = some v1 := by
  have e1 : (W.setCell ⟨b, 0, none⟩ v0).cell? ⟨b, 0, none⟩ = some v0 := World.cell?_setCell_same' _ _ _ (by rw [h0]; rfl)
  have e2 : (W.setCell ⟨b, 0, none⟩ v0).cell? ⟨b, 1, none⟩ = some x1 := (World.cell?_setCell_other W ⟨b, 0, none⟩ ⟨b, 1, none⟩ v0 (by simp)).trans h1
  exact ⟨(World.cell?_setCell_other _ ⟨b, 1, none⟩ ⟨b, 0, none⟩ v1 (by simp)).trans e1, World.cell?_setCell_same' _ _ _ (by rw [e2]; rfl)⟩
theorem two_cells_alloc {W : World} {b : Nat} {x0 x1 : Value} (h0 : W.cell? ⟨b, 0, none⟩ = some x0) (h1 : W.cell? ⟨b, 1, none⟩ = some x1) (v0 v1 : Value) (o : Obj) :
    (((W.setCell ⟨b, 0, none⟩ v0).setCell ⟨b, 1, none⟩ v1).alloc o).cell? ⟨b, 0, none⟩ = some v0 ∧ (((W.setCell ⟨b, 0, none⟩ v0).setCell ⟨b, 1, none⟩ v1).alloc o).cell? ⟨b, 1, none⟩ = some v1 := by
  have h := two_cells h0 h1 v0 v1
  have l0 := World.block_lt_of_cell? _ _ h.1
  exact ⟨(World.cell?_alloc_lt _ o _ l0).trans h.1, (World.cell?_alloc_lt _ o ⟨b, 1, none⟩ l0).trans h.2⟩

set_option maxHeartbeats 1000000 in
theorem parse_calls (s : ByteArray) (w : World) (hl : Vars w) (hs : s.size < 4294967281) :
    Calls Tryd.prog 103 #[.string s] w fun e w' => e = .returned (parseRet s) ∧ Below w.heap.size w w' := by
  have HN := Aside0.mk (cutN_size s)
  have HR := Aside0.mk (cutR_size s)
  have HV := Aside0.mk (trimS_size (strL (Lib.cut s.data.toList [58]).2.1))
  have HL := Aside0.mk hl
  have HS := Aside0.mk hs
  obtain ⟨_, m, hm⟩ := hl
  have HM := Aside0.mk hm
  clear hm hs
  have B0 := (Below.refl w.heap.size w).alloc (Nat.le_refl _) (.cells #[.string ⟨#[]⟩, .string ⟨#[]⟩] 53)
  have HB0 := Aside0.mk B0
  clear B0
  go_enter Tryd.func103, Tryd.ntmps103
  go_wp2_with fail
  refine (Tryd.strings_Cut s ⟨#[58]⟩ m _ HS.out ((HB0.out.cell (p := ⟨1, 0, none⟩) (World.block_lt_of_cell? w _ HM.out)).trans HM.out)).mono ?_
  rintro e w1 ⟨rfl, n1, rfl⟩
  go_wp2_with fail
  refine (trim_calls (strL (Lib.cut s.data.toList [58]).2.1) _ (by have := HR.out; have := HS.out; omega)).mono ?_
  rintro e w2 ⟨rfl, hb2⟩
  have hB2 : Below w.heap.size w w2 := below_then (pw_below_drewN HB0.out n1) (by simp) hb2
  have hc0 : w2.cell? ⟨w.heap.size, 0, none⟩ = some (.string ⟨#[]⟩) := (hb2.cell (p := ⟨w.heap.size, 0, none⟩) (by simp)).trans (by simp)
  have hc1 : w2.cell? ⟨w.heap.size, 1, none⟩ = some (.string ⟨#[]⟩) := (hb2.cell (p := ⟨w.heap.size, 1, none⟩) (by simp)).trans (by simp)
  have hf0 : w2.frozen? ⟨w.heap.size, 0, none⟩ = false := (hb2.frozen (p := ⟨w.heap.size, 0, none⟩) (by simp)).trans (by simp)
  have hf1 : w2.frozen? ⟨w.heap.size, 1, none⟩ = false := (hb2.frozen (p := ⟨w.heap.size, 1, none⟩) (by simp)).trans (by simp)
  have hz2 : w.heap.size < w2.heap.size := by have := hb2.size; simp at this; omega
  have HB2 := Aside0.mk hB2
  clear hb2 hB2
  cases hok : cutOk s with
  | false =>
    have HP := Aside0.mk (show parseOk s = false by simp [parseOk, hok])
    have hok' : (Lib.cut s.data.toList [58]).2.2 = false := hok
    clear hok
    go_wp2_with fail
    obtain ⟨q0, q1⟩ := two_cells_alloc hc0 hc1 (.string ⟨#[]⟩) (.string ⟨#[]⟩) (.cells #[.string ⟨(Lib.cut s.data.toList [58]).1.toArray⟩, .string (trimS (strL (Lib.cut s.data.toList [58]).2.1))] 53)
    refine bodyPost_ret (v := .tuple #[.agg #[.string ⟨#[]⟩, .string ⟨#[]⟩], .int .i64 2]) (by simp [results, Tryd.results103, go_sem, q0, q1]) rfl ⟨by rw [parseRet_no HP.out], ?_⟩
    exact ((HB2.out.setCell (p := ⟨w.heap.size, 0, none⟩) (Nat.le_refl _) _).setCell (p := ⟨w.heap.size, 1, none⟩) (Nat.le_refl _) _).alloc (by simp; omega) _
  | true =>
    have hok' : (Lib.cut s.data.toList [58]).2.2 = true := hok
    have HW2 := Aside0.mk (HB2.out.alloc (Nat.le_of_lt hz2) (.cells #[.string (cutN s), .string (cutV s)] 53))
    cases hr : rightS (cutN s) (cutV s) with
    | false =>
      have HP := Aside0.mk (show parseOk s = false by simp [parseOk, hr])
      have HRR := Aside0.mk hr
      clear hok hr
      go_wp2_with fail
      refine (right_calls (cutN s) (cutV s) _ (HL.out.below HW2.out).1 (by have := HN.out; have := HS.out; omega) (by have := HV.out; have := HR.out; have := HS.out; unfold cutV; omega)).mono ?_
      rintro e w3 ⟨rfl, hb3⟩
      rw [HRR.out]
      have g0 : w3.cell? ⟨w.heap.size, 0, none⟩ = some (.string ⟨#[]⟩) := (hb3.cell (p := ⟨w.heap.size, 0, none⟩) (by simp; omega)).trans ((World.cell?_alloc_lt _ _ ⟨w.heap.size, 0, none⟩ hz2).trans hc0)
      have g1 : w3.cell? ⟨w.heap.size, 1, none⟩ = some (.string ⟨#[]⟩) := (hb3.cell (p := ⟨w.heap.size, 1, none⟩) (by simp; omega)).trans ((World.cell?_alloc_lt _ _ ⟨w.heap.size, 1, none⟩ hz2).trans hc1)
      have k0 : w3.frozen? ⟨w.heap.size, 0, none⟩ = false := (hb3.frozen (p := ⟨w.heap.size, 0, none⟩) (by simp; omega)).trans ((froz_alloc w2 _ ⟨w.heap.size, 0, none⟩ hz2).trans hf0)
      have k1 : w3.frozen? ⟨w.heap.size, 1, none⟩ = false := (hb3.frozen (p := ⟨w.heap.size, 1, none⟩) (by simp; omega)).trans ((froz_alloc w2 _ ⟨w.heap.size, 1, none⟩ hz2).trans hf1)
      have j0 : w3.cell? ⟨w2.heap.size, 0, none⟩ = some (.string (cutN s)) := (hb3.cell (p := ⟨w2.heap.size, 0, none⟩) (by simp)).trans (World.cell?_alloc_new w2 #[.string (cutN s), .string (cutV s)] 53 0)
      have j1 : w3.cell? ⟨w2.heap.size, 1, none⟩ = some (.string (cutV s)) := (hb3.cell (p := ⟨w2.heap.size, 1, none⟩) (by simp)).trans (World.cell?_alloc_new w2 #[.string (cutN s), .string (cutV s)] 53 1)
      have HB3 := Aside0.mk (below_then HW2.out HW2.out.size hb3)
      have HF := Aside0.mk (And.intro hc0 (And.intro hc1 (And.intro hf0 hf1)))
      clear hb3 hc0 hc1 hf0 hf1
      go_wp2_with fail
      obtain ⟨q0, q1⟩ := two_cells g0 g1 (.string ⟨#[]⟩) (.string ⟨#[]⟩)
      refine bodyPost_ret (v := .tuple #[.agg #[.string ⟨#[]⟩, .string ⟨#[]⟩], .int .i64 2]) (by simp [results, Tryd.results103, go_sem, q0, q1]) rfl ⟨by rw [parseRet_no HP.out], ?_⟩
      exact (HB3.out.setCell (p := ⟨w.heap.size, 0, none⟩) (Nat.le_refl _) _).setCell (p := ⟨w.heap.size, 1, none⟩) (Nat.le_refl _) _
    | true =>
      have HP := Aside0.mk (show parseOk s = true by simp [parseOk, hok, hr])
      have HRR := Aside0.mk hr
      clear hok hr
      go_wp2_with fail
      refine (right_calls (cutN s) (cutV s) _ (HL.out.below HW2.out).1 (by have := HN.out; have := HS.out; omega) (by have := HV.out; have := HR.out; have := HS.out; unfold cutV; omega)).mono ?_
      rintro e w3 ⟨rfl, hb3⟩
      rw [HRR.out]
      have g0 : w3.cell? ⟨w.heap.size, 0, none⟩ = some (.string ⟨#[]⟩) := (hb3.cell (p := ⟨w.heap.size, 0, none⟩) (by simp; omega)).trans ((World.cell?_alloc_lt _ _ ⟨w.heap.size, 0, none⟩ hz2).trans hc0)
      have g1 : w3.cell? ⟨w.heap.size, 1, none⟩ = some (.string ⟨#[]⟩) := (hb3.cell (p := ⟨w.heap.size, 1, none⟩) (by simp; omega)).trans ((World.cell?_alloc_lt _ _ ⟨w.heap.size, 1, none⟩ hz2).trans hc1)
      have k0 : w3.frozen? ⟨w.heap.size, 0, none⟩ = false := (hb3.frozen (p := ⟨w.heap.size, 0, none⟩) (by simp; omega)).trans ((froz_alloc w2 _ ⟨w.heap.size, 0, none⟩ hz2).trans hf0)
      have k1 : w3.frozen? ⟨w.heap.size, 1, none⟩ = false := (hb3.frozen (p := ⟨w.heap.size, 1, none⟩) (by simp; omega)).trans ((froz_alloc w2 _ ⟨w.heap.size, 1, none⟩ hz2).trans hf1)
      have j0 : w3.cell? ⟨w2.heap.size, 0, none⟩ = some (.string (cutN s)) := (hb3.cell (p := ⟨w2.heap.size, 0, none⟩) (by simp)).trans (World.cell?_alloc_new w2 #[.string (cutN s), .string (cutV s)] 53 0)
      have j1 : w3.cell? ⟨w2.heap.size, 1, none⟩ = some (.string (cutV s)) := (hb3.cell (p := ⟨w2.heap.size, 1, none⟩) (by simp)).trans (World.cell?_alloc_new w2 #[.string (cutN s), .string (cutV s)] 53 1)
      have HB3 := Aside0.mk (below_then HW2.out HW2.out.size hb3)
      have HF := Aside0.mk (And.intro hc0 (And.intro hc1 (And.intro hf0 hf1)))
      clear hb3 hc0 hc1 hf0 hf1
      go_wp2_with fail
      obtain ⟨q0, q1⟩ := two_cells g0 g1 (.string (cutN s)) (.string (cutV s))
      refine bodyPost_ret (v := .tuple #[.agg #[.string (cutN s), .string (cutV s)], .int .i64 0]) (by simp [results, Tryd.results103, go_sem, q0, q1]) rfl ⟨by rw [parseRet_ok HP.out], ?_⟩
      exact (HB3.out.setCell (p := ⟨w.heap.size, 0, none⟩) (Nat.le_refl _) _).setCell (p := ⟨w.heap.size, 1, none⟩) (Nat.le_refl _) _
end Go.Proofs.YtebjfgkgfgbndaaDoor
