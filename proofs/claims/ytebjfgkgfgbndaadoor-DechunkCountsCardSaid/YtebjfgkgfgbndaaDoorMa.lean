/- octet, field.Parse, the decoder and its methods: contracts (walks) and plain laws over this seat's translation. -/
import Derived.Test.YtebjfgkgfgbndaaDoorPBodyScansx4
import Derived.Test.YtebjfgkgfgbndaaDoorShelf
namespace Go.Proofs.YtebjfgkgfgbndaaDoor
open Go.RowKit Go.Proofs.YtebjfgkgfgbndaaDoorW.PrintWords Go.Proofs.YtebjfgkgfgbndaaDoorW.PrintLast Go.Proofs.YtebjfgkgfgbndaaDoorW.PrintMore

/-- octet.ends as the program's text lays it. -/
def EndsAt (w : World) : Prop := w.heap[0]? = some (.cells #[.int .u8 48, .int .u8 57, .int .u8 65, .int .u8 90, .int .u8 97, .int .u8 122] 163 (0, 0))

def blankB (c : Int) : Bool := c == 32 || c == 9
def textB (c : Int) : Bool := blankB c || (decide (c > 32) && c != 127)
def alnumB (c : Int) : Bool := (decide (48 ≤ c) && decide (c ≤ 57)) || (decide (65 ≤ c) && decide (c ≤ 90)) || (decide (97 ≤ c) && decide (c ≤ 122))
def othersL : List UInt8 := [33, 35, 36, 37, 38, 39, 42, 43, 45, 46, 94, 95, 96, 124, 126]
def tokenB (c : Int) : Bool := alnumB c || decide (0 ≤ Lib.indexByte othersL c.toNat.toUInt8)

theorem blank_calls (c : Int) (w : World) :
    Calls Tryd.prog 116 #[.int .u8 c] w fun e w' => e = .returned (.bool (blankB c)) ∧ w = w' := by
  by_cases h : c = 32
  · subst h
    go_enter Tryd.func116, Tryd.ntmps116
    go_wp2
    go_ret
    exact ⟨rfl, rfl⟩
  · have hb : (c == 32) = false := beq_eq_false_iff_ne.mpr h
    have e : blankB c = (c == 9) := by simp [blankB, hb]
    have HE := Aside0.mk e
    clear e h
    go_enter Tryd.func116, Tryd.ntmps116
    go_wp2
    go_ret
    exact ⟨by rw [HE.out]; rfl, rfl⟩

theorem text1_calls (c : Int) (w : World) :
    Calls Tryd.prog 115 #[.int .u8 c] w fun e w' => e = .returned (.bool (textB c)) ∧ w = w' := by
  cases hb : blankB c with
  | true =>
    have HE := Aside0.mk (show textB c = true by simp [textB, hb])
    have HB := Aside0.mk hb
    clear hb
    go_enter Tryd.func115, Tryd.ntmps115
    go_wp2_with (go_at_call 116; refine (blank_calls _ _).mono ?_; rintro e w' ⟨rfl, rfl⟩; rw [HB.out])
    go_ret
    exact ⟨by rw [HE.out]; rfl, rfl⟩
  | false =>
    have HB := Aside0.mk hb
    by_cases h : c > 32
    · have HE := Aside0.mk (show textB c = (c != 127) by simp [textB, hb, h])
      have h1 : decide (32 < c) = true := decide_eq_true h
      clear hb h
      go_enter Tryd.func115, Tryd.ntmps115
      go_wp2_with (go_at_call 116; refine (blank_calls _ _).mono ?_; rintro e w' ⟨rfl, rfl⟩; rw [HB.out])
      go_ret
      exact ⟨by rw [HE.out]; rfl, rfl⟩
    · have HE := Aside0.mk (show textB c = false by simp [textB, hb, h])
      have h1 : decide (32 < c) = false := decide_eq_false h
      clear hb h
      go_enter Tryd.func115, Tryd.ntmps115
      go_wp2_with (go_at_call 116; refine (blank_calls _ _).mono ?_; rintro e w' ⟨rfl, rfl⟩; rw [HB.out])
      go_ret
      exact ⟨by rw [HE.out]; rfl, rfl⟩

theorem EndsAt.below {w w' : World} (h : EndsAt w) (hb : Below w.heap.size w w') : EndsAt w' := (hb.block 0 (Array.getElem?_eq_some_iff.1 h).1).trans h

theorem EndsAt.cells {w : World} (h : EndsAt w) : w.cell? ⟨0, 0, none⟩ = some (.int .u8 48) ∧ w.cell? ⟨0, 1, none⟩ = some (.int .u8 57) ∧ w.cell? ⟨0, 2, none⟩ = some (.int .u8 65) ∧ w.cell? ⟨0, 3, none⟩ = some (.int .u8 90) ∧ w.cell? ⟨0, 4, none⟩ = some (.int .u8 97) ∧ w.cell? ⟨0, 5, none⟩ = some (.int .u8 122) := by
  unfold EndsAt at h
  refine ⟨?_, ?_, ?_, ?_, ?_, ?_⟩ <;> simp [World.cell?, h]

set_option maxHeartbeats 1000000 in
set_option maxRecDepth 100000 in
theorem token1_calls (c : Int) (w : World) (hl : EndsAt w) (h0 : 0 ≤ c) (h1 : c ≤ 255) :
    Calls Tryd.prog 117 #[.int .u8 c] w fun e w' => e = .returned (.bool (tokenB c)) ∧ Below w.heap.size w w' := by
  obtain ⟨c0, c1, c2, c3, c4, c5⟩ := hl.cells
  have i0 : ∀ w, (Instr.index 163 (.agg #[.int .u8 48, .int .u8 57, .int .u8 65, .int .u8 90, .int .u8 97, .int .u8 122]) (.int .i64 0)).run Tryd.prog w = .ok (.agg #[.int .u8 48, .int .u8 57]) w := fun _ => by kernel_rfl
  have i1 : ∀ w, (Instr.index 163 (.agg #[.int .u8 48, .int .u8 57, .int .u8 65, .int .u8 90, .int .u8 97, .int .u8 122]) (.int .i64 1)).run Tryd.prog w = .ok (.agg #[.int .u8 65, .int .u8 90]) w := fun _ => by kernel_rfl
  have i2 : ∀ w, (Instr.index 163 (.agg #[.int .u8 48, .int .u8 57, .int .u8 65, .int .u8 90, .int .u8 97, .int .u8 122]) (.int .i64 2)).run Tryd.prog w = .ok (.agg #[.int .u8 97, .int .u8 122]) w := fun _ => by kernel_rfl
  have HL := Aside0.mk hl
  clear hl
  go_enter Tryd.func117, Tryd.ntmps117
  go_wp2_with fail
  go_loopw [6] (fun v wr => ∃ k : Nat, v = .int .i64 k ∧ Aside0 (k ≤ 3) ∧ Below w.heap.size w wr ∧ Aside0 ((0 < k → ¬ (48 ≤ c ∧ c ≤ 57)) ∧ (1 < k → ¬ (65 ≤ c ∧ c ≤ 90)) ∧ (2 < k → ¬ (97 ≤ c ∧ c ≤ 122)))) (fun v _ => 3 - (intOf v).toNat)
  case atStart => exact ⟨0, rfl, ⟨by omega⟩, Below.refl _ _, ⟨by omega, by omega, by omega⟩⟩
  case round =>
    obtain ⟨k, rfl, ⟨hk⟩, hb, ⟨hn⟩⟩ := hrel
    obtain rfl | rfl | rfl | rfl : k = 0 ∨ k = 1 ∨ k = 2 ∨ k = 3 := by omega
    · have HN := Aside0.mk hn
      clear hn hk
      by_cases g0 : 48 ≤ c
      · by_cases g1 : c ≤ 57
        · have d0 : decide (48 ≤ c) = true := decide_eq_true g0
          have d1 : decide (c ≤ 57) = true := decide_eq_true g1
          have HT := Aside0.mk (show tokenB c = true by simp [tokenB, alnumB, d0, d1])
          clear g0 g1
          go_wp2_with fail
          go_ret
          exact ⟨by rw [HT.out]; rfl, hb.alloc hb.size _⟩
        · have d0 : decide (48 ≤ c) = true := decide_eq_true g0
          have d1 : decide (c ≤ 57) = false := decide_eq_false g1
          have HT := Aside0.mk (show ¬ (48 ≤ c ∧ c ≤ 57) by omega)
          clear g0 g1
          go_wp2_with fail
          go_roundw
          case rel => exact ⟨1, rfl, ⟨by omega⟩, hb.alloc hb.size _, ⟨fun _ => HT.out, by omega, by omega⟩⟩
          case measure => simp [intOf]
      · have d0 : decide (48 ≤ c) = false := decide_eq_false g0
        have HT := Aside0.mk (show ¬ (48 ≤ c ∧ c ≤ 57) by omega)
        clear g0
        go_wp2_with fail
        go_roundw
        case rel => exact ⟨1, rfl, ⟨by omega⟩, hb.alloc hb.size _, ⟨fun _ => HT.out, by omega, by omega⟩⟩
        case measure => simp [intOf]
    · have HN := Aside0.mk hn
      clear hn hk
      by_cases g0 : 65 ≤ c
      · by_cases g1 : c ≤ 90
        · have d0 : decide (65 ≤ c) = true := decide_eq_true g0
          have d1 : decide (c ≤ 90) = true := decide_eq_true g1
          have HT := Aside0.mk (show tokenB c = true by simp [tokenB, alnumB, d0, d1])
          clear g0 g1
          go_wp2_with fail
          go_ret
          exact ⟨by rw [HT.out]; rfl, hb.alloc hb.size _⟩
        · have d0 : decide (65 ≤ c) = true := decide_eq_true g0
          have d1 : decide (c ≤ 90) = false := decide_eq_false g1
          have HT := Aside0.mk (show ¬ (65 ≤ c ∧ c ≤ 90) by omega)
          clear g0 g1
          go_wp2_with fail
          go_roundw
          case rel => exact ⟨2, rfl, ⟨by omega⟩, hb.alloc hb.size _, ⟨fun _ => HN.out.1 (by omega), fun _ => HT.out, by omega⟩⟩
          case measure => simp [intOf]
      · have d0 : decide (65 ≤ c) = false := decide_eq_false g0
        have HT := Aside0.mk (show ¬ (65 ≤ c ∧ c ≤ 90) by omega)
        clear g0
        go_wp2_with fail
        go_roundw
        case rel => exact ⟨2, rfl, ⟨by omega⟩, hb.alloc hb.size _, ⟨fun _ => HN.out.1 (by omega), fun _ => HT.out, by omega⟩⟩
        case measure => simp [intOf]
    · have HN := Aside0.mk hn
      clear hn hk
      by_cases g0 : 97 ≤ c
      · by_cases g1 : c ≤ 122
        · have d0 : decide (97 ≤ c) = true := decide_eq_true g0
          have d1 : decide (c ≤ 122) = true := decide_eq_true g1
          have HT := Aside0.mk (show tokenB c = true by simp [tokenB, alnumB, d0, d1])
          clear g0 g1
          go_wp2_with fail
          go_ret
          exact ⟨by rw [HT.out]; rfl, hb.alloc hb.size _⟩
        · have d0 : decide (97 ≤ c) = true := decide_eq_true g0
          have d1 : decide (c ≤ 122) = false := decide_eq_false g1
          have HT := Aside0.mk (show ¬ (97 ≤ c ∧ c ≤ 122) by omega)
          clear g0 g1
          go_wp2_with fail
          go_roundw
          case rel => exact ⟨3, rfl, ⟨by omega⟩, hb.alloc hb.size _, ⟨fun _ => HN.out.1 (by omega), fun _ => HN.out.2.1 (by omega), fun _ => HT.out⟩⟩
          case measure => simp [intOf]
      · have d0 : decide (97 ≤ c) = false := decide_eq_false g0
        have HT := Aside0.mk (show ¬ (97 ≤ c ∧ c ≤ 122) by omega)
        clear g0
        go_wp2_with fail
        go_roundw
        case rel => exact ⟨3, rfl, ⟨by omega⟩, hb.alloc hb.size _, ⟨fun _ => HN.out.1 (by omega), fun _ => HN.out.2.1 (by omega), fun _ => HT.out⟩⟩
        case measure => simp [intOf]
    · have HT := Aside0.mk (show tokenB c = decide (0 ≤ Lib.indexByte othersL c.toNat.toUInt8) by
        have a1 := hn.1 (by omega); have a2 := hn.2.1 (by omega); have a3 := hn.2.2 (by omega)
        have : alnumB c = false := by simp only [alnumB, Bool.or_eq_false_iff, Bool.and_eq_false_iff, decide_eq_false_iff_not]; omega
        simp [tokenB, this])
      clear hn hk
      go_wp2_with (go_at_call 118; refine (Tryd.strings_IndexByte ⟨othersL.toArray⟩ c _).mono ?_; rintro e w' ⟨rfl, rfl⟩)
      go_ret
      exact ⟨by rw [HT.out]; rfl, hb⟩

theorem bytesOf_range (s : ByteArray) : ∀ x ∈ bytesOf s, 0 ≤ x ∧ x ≤ 255 := by
  intro x hx
  obtain ⟨b, _, rfl⟩ := List.mem_map.1 hx
  have := b.toNat_lt
  omega
theorem all_snoc (p : Int → Bool) (l : List Int) (k : Nat) (hk : k < l.length) : (l.take (k + 1)).all p = ((l.take k).all p && p (l.getD k 0)) := by
  rw [List.take_succ_eq_append_getElem hk, List.all_append, List.getD_eq_getElem?_getD, List.getElem?_eq_getElem hk]
  simp
theorem conv_reads (w : World) (s : ByteArray) : ∃ W1 c, (convert 9 24 (.string s)).run Tryd.prog w = .ok (.slice (some ⟨w.heap.size, 0, none⟩) s.size c) W1 ∧ Below w.heap.size w W1 ∧ w.heap.size < W1.heap.size ∧
    ∀ j, j < s.size → W1.cell? ⟨w.heap.size, j, none⟩ = some (.int .u8 ((bytesOf s).getD j 0)) := by
  refine ⟨_, _, Lib.run_convert_string_bytes w 9 24 5 s Tryd.underlying9 Tryd.underlying24 Tryd.underlying5, bytes_below (Below.refl _ _) (Nat.le_refl _) 5 s, by rw [Lib.bytesWorld_size]; omega, fun j hj => ?_⟩
  rw [Lib.bytesWorld_cell w 5 s j hj]
  have hj' : j < s.data.toList.length := by simpa using hj
  simp [bytesOf, List.getD_eq_getElem?_getD, hj]


set_option maxHeartbeats 1000000 in
theorem all117_calls (s : ByteArray) (w : World) (hl : EndsAt w) (hs : s.size ≤ 9223372036854775806) :
    Calls Tryd.prog 114 #[.string s, .func (.func 117) #[] #[]] w fun e w' => e = .returned (.bool ((bytesOf s).all tokenB)) ∧ Below w.heap.size w w' := by
  obtain ⟨W1, c, hcv, hB, hsz, hcell⟩ := conv_reads w s
  have HL := Aside0.mk hl
  have HB := Aside0.mk hB
  have HC := Aside0.mk hcell
  have HS := Aside0.mk hs
  have HZ := Aside0.mk hsz
  clear hl hB hcell hs hsz
  have e117 : ∀ args w, (callFunc 117 args).run Tryd.prog w = .ok (.enter 117 args) w := enters_of Tryd.func117 (by kernel_rfl) rfl
  go_enter Tryd.func114, Tryd.ntmps114
  go_wp2_with fail
  clear hcv
  go_loopw [10] (fun v wr => ∃ k : Nat, v = .int .i64 k ∧ Aside0 (k ≤ s.size) ∧ Aside0 (Below w.heap.size w wr) ∧ Aside0 (Below W1.heap.size W1 wr) ∧ Aside0 (((bytesOf s).take k).all tokenB = true)) (fun v _ => s.size - (intOf v).toNat)
  case atStart => exact ⟨0, rfl, ⟨by omega⟩, HB, ⟨Below.refl _ _⟩, ⟨by simp⟩⟩
  case round =>
    obtain ⟨k, rfl, HK, HB1, HB2, HA⟩ := hrel
    by_cases hlt : k < s.size
    · have hcj : wr.cell? ⟨w.heap.size, k, none⟩ = some (.int .u8 ((bytesOf s).getD k 0)) := (HB2.out.cell (p := ⟨w.heap.size, k, none⟩) HZ.out).trans (HC.out k hlt)
      have hx : (bytesOf s).getD k 0 ∈ bytesOf s := by
        rw [List.getD_eq_getElem?_getD, List.getElem?_eq_getElem (by rw [bytesOf_length]; exact hlt)]
        exact List.getElem_mem _
      have hxr := bytesOf_range s _ hx
      have HN := Aside0.mk (all_snoc tokenB (bytesOf s) k (by rw [bytesOf_length]; exact hlt))
      clear hx
      generalize (bytesOf s).getD k 0 = x at *
      have HX := Aside0.mk hxr
      clear hxr
      have HBD := HS.out
      cases hp : tokenB x with
      | true =>
        have HP := Aside0.mk hp
        clear hp
        go_wp2_with (go_at_call 117; refine (token1_calls x _ (HL.out.below HB1.out) HX.out.1 HX.out.2).mono ?_; rintro e w2 ⟨rfl, hb2⟩; rw [HP.out]; have HB3 := Aside0.mk hb2; clear hb2)
        go_roundw
        case rel => exact ⟨k + 1, by go_num, ⟨by omega⟩, ⟨below_then HB1.out HB1.out.size HB3.out⟩, ⟨below_then HB2.out HB2.out.size HB3.out⟩, ⟨by rw [HN.out, HA.out, HP.out]; rfl⟩⟩
        case measure => simp [intOf]; omega
      | false =>
        have HP := Aside0.mk hp
        have HF : Aside0 ((bytesOf s).all tokenB = false) := ⟨by
          rw [← List.take_append_drop (k + 1) (bytesOf s), List.all_append, HN.out, hp]; simp⟩
        clear hp
        go_wp2_with (go_at_call 117; refine (token1_calls x _ (HL.out.below HB1.out) HX.out.1 HX.out.2).mono ?_; rintro e w2 ⟨rfl, hb2⟩; rw [HP.out]; have HB3 := Aside0.mk hb2; clear hb2)
        go_ret
        exact ⟨by rw [HF.out]; rfl, below_then HB1.out HB1.out.size HB3.out⟩
    · have hkk : k = s.size := by have := HK.out; omega
      have HF : Aside0 ((bytesOf s).all tokenB = true) := ⟨by have := HA.out; rwa [List.take_of_length_le (by rw [bytesOf_length]; omega)] at this⟩
      clear hkk
      go_wp2_with fail
      go_ret
      exact ⟨by rw [HF.out]; rfl, HB1.out⟩

set_option maxHeartbeats 1000000 in
theorem all115_calls (s : ByteArray) (w : World) (hl : EndsAt w) (hs : s.size ≤ 9223372036854775806) :
    Calls Tryd.prog 114 #[.string s, .func (.func 115) #[] #[]] w fun e w' => e = .returned (.bool ((bytesOf s).all textB)) ∧ Below w.heap.size w w' := by
  obtain ⟨W1, c, hcv, hB, hsz, hcell⟩ := conv_reads w s
  have HL := Aside0.mk hl
  have HB := Aside0.mk hB
  have HC := Aside0.mk hcell
  have HS := Aside0.mk hs
  have HZ := Aside0.mk hsz
  clear hl hB hcell hs hsz
  have e115 : ∀ args w, (callFunc 115 args).run Tryd.prog w = .ok (.enter 115 args) w := enters_of Tryd.func115 (by kernel_rfl) rfl
  go_enter Tryd.func114, Tryd.ntmps114
  go_wp2_with fail
  clear hcv
  go_loopw [10] (fun v wr => ∃ k : Nat, v = .int .i64 k ∧ Aside0 (k ≤ s.size) ∧ Aside0 (Below w.heap.size w wr) ∧ Aside0 (Below W1.heap.size W1 wr) ∧ Aside0 (((bytesOf s).take k).all textB = true)) (fun v _ => s.size - (intOf v).toNat)
  case atStart => exact ⟨0, rfl, ⟨by omega⟩, HB, ⟨Below.refl _ _⟩, ⟨by simp⟩⟩
  case round =>
    obtain ⟨k, rfl, HK, HB1, HB2, HA⟩ := hrel
    by_cases hlt : k < s.size
    · have hcj : wr.cell? ⟨w.heap.size, k, none⟩ = some (.int .u8 ((bytesOf s).getD k 0)) := (HB2.out.cell (p := ⟨w.heap.size, k, none⟩) HZ.out).trans (HC.out k hlt)
      have hx : (bytesOf s).getD k 0 ∈ bytesOf s := by
        rw [List.getD_eq_getElem?_getD, List.getElem?_eq_getElem (by rw [bytesOf_length]; exact hlt)]
        exact List.getElem_mem _
      have hxr := bytesOf_range s _ hx
      have HN := Aside0.mk (all_snoc textB (bytesOf s) k (by rw [bytesOf_length]; exact hlt))
      clear hx
      generalize (bytesOf s).getD k 0 = x at *
      have HX := Aside0.mk hxr
      clear hxr
      have HBD := HS.out
      cases hp : textB x with
      | true =>
        have HP := Aside0.mk hp
        clear hp
        go_wp2_with (go_at_call 115; refine (text1_calls x _).mono ?_; rintro e w2 ⟨rfl, rfl⟩; rw [HP.out])
        go_roundw
        case rel => exact ⟨k + 1, by go_num, ⟨by omega⟩, HB1, HB2, ⟨by rw [HN.out, HA.out, HP.out]; rfl⟩⟩
        case measure => simp [intOf]; omega
      | false =>
        have HP := Aside0.mk hp
        have HF : Aside0 ((bytesOf s).all textB = false) := ⟨by
          rw [← List.take_append_drop (k + 1) (bytesOf s), List.all_append, HN.out, hp]; simp⟩
        clear hp
        go_wp2_with (go_at_call 115; refine (text1_calls x _).mono ?_; rintro e w2 ⟨rfl, rfl⟩; rw [HP.out])
        go_ret
        exact ⟨by rw [HF.out]; rfl, HB1.out⟩
    · have hkk : k = s.size := by have := HK.out; omega
      have HF : Aside0 ((bytesOf s).all textB = true) := ⟨by have := HA.out; rwa [List.take_of_length_le (by rw [bytesOf_length]; omega)] at this⟩
      clear hkk
      go_wp2_with fail
      go_ret
      exact ⟨by rw [HF.out]; rfl, HB1.out⟩
end Go.Proofs.YtebjfgkgfgbndaaDoor

namespace Go.Proofs.YtebjfgkgfgbndaaDoor
open Go.RowKit Go.Proofs.YtebjfgkgfgbndaaDoorW.PrintWords Go.Proofs.YtebjfgkgfgbndaaDoorW.PrintLast Go.Proofs.YtebjfgkgfgbndaaDoorW.PrintMore

def textS (s : ByteArray) : Bool := (bytesOf s).all textB
def tokenS (s : ByteArray) : Bool := s.size != 0 && (bytesOf s).all tokenB
def trimS (s : ByteArray) : ByteArray := ⟨(Lib.trimS s.data.toList [32, 9]).toArray⟩
def valueS (s : ByteArray) : Bool := textS s && (trimS s).toList == s.toList
def rightS (n v : ByteArray) : Bool := tokenS n && valueS v

theorem trimS_size (s : ByteArray) : (trimS s).size ≤ s.size := by
  have h : ∀ l : List UInt8, (Lib.trimS l [32, 9]).length ≤ l.length := fun l => by
    unfold Lib.trimS Lib.trimLeftS Lib.trimRightS
    have h1 := (List.dropWhile_suffix (l := l.reverse) ([32, 9].contains ·)).length_le
    have h2 := (List.dropWhile_suffix (l := (List.dropWhile ([32, 9].contains ·) l.reverse).reverse) ([32, 9].contains ·)).length_le
    simp only [List.length_reverse] at h1 h2
    omega
  have h2 := h s.data.toList
  rw [Lib.size_eq s, Lib.size_eq (trimS s)]
  exact h2

theorem text_calls (s : ByteArray) (w : World) (hl : EndsAt w) (hs : s.size ≤ 9223372036854775806) :
    Calls Tryd.prog 100 #[.string s] w fun e w' => e = .returned (.bool (textS s)) ∧ Below w.heap.size w w' := by
  go_enter Tryd.func100, Tryd.ntmps100
  go_wp2_with (go_at_call 114; refine (all115_calls s w hl hs).mono ?_; rintro e w' ⟨rfl, hb⟩)
  go_ret
  exact ⟨rfl, hb⟩

theorem token_calls (s : ByteArray) (w : World) (hl : EndsAt w) (hs : s.size ≤ 9223372036854775806) :
    Calls Tryd.prog 101 #[.string s] w fun e w' => e = .returned (.bool (tokenS s)) ∧ Below w.heap.size w w' := by
  by_cases h : s.size = 0
  · have HT := Aside0.mk (show tokenS s = false by simp [tokenS, h])
    have h1 : s.toList = [] := by rw [Lib.toList_data]; exact List.eq_nil_of_length_eq_zero (by rw [← Lib.size_eq]; exact h)
    have h2 : s.toList.isEmpty = true := by rw [h1]; rfl
    clear h
    go_enter Tryd.func101, Tryd.ntmps101
    go_wp2_with fail
    go_ret
    exact ⟨by rw [HT.out]; rfl, Below.refl _ _⟩
  · have HT := Aside0.mk (show tokenS s = (bytesOf s).all tokenB by simp [tokenS, h])
    have h0 : s.toList ≠ [] := by
      rw [Lib.toList_data]
      intro e
      exact h (by rw [Lib.size_eq, e]; rfl)
    have h1 : s.toList.isEmpty = false := by simpa using h0
    clear h h0
    go_enter Tryd.func101, Tryd.ntmps101
    go_wp2_with (go_at_call 114; refine (all117_calls s w hl hs).mono ?_; rintro e w' ⟨rfl, hb⟩)
    go_ret
    exact ⟨by rw [HT.out]; rfl, hb⟩

theorem trim_calls (s : ByteArray) (w : World) (hs : s.size ≤ 9223372036854775806) :
    Calls Tryd.prog 120 #[.string s] w fun e w' => e = .returned (.string (trimS s)) ∧ Below w.heap.size w w' := by
  go_enter Tryd.func120, Tryd.ntmps120
  go_wp2_with (go_at_call 133; refine (Any.strings_Trim_laid Tryd.lays160 (by kernel_rfl) s ⟨#[32, 9]⟩ w (by omega) (by decide) (ascii_of_all (by decide))).mono ?_; rintro e w' ⟨rfl, hb⟩)
  go_ret
  exact ⟨rfl, hb⟩

theorem value_calls (s : ByteArray) (w : World) (hl : EndsAt w) (hs : s.size ≤ 9223372036854775806) :
    Calls Tryd.prog 134 #[.string s] w fun e w' => e = .returned (.bool (valueS s)) ∧ Below w.heap.size w w' := by
  cases ht : textS s with
  | false =>
    have HT := Aside0.mk (show valueS s = false by simp [valueS, ht])
    have H1 := Aside0.mk ht
    clear ht
    go_enter Tryd.func134, Tryd.ntmps134
    go_wp2_with (go_at_call 100; refine (text_calls s w hl hs).mono ?_; rintro e w' ⟨rfl, hb⟩; rw [H1.out])
    go_ret
    exact ⟨by rw [HT.out]; rfl, hb⟩
  | true =>
    have HT := Aside0.mk (show valueS s = ((trimS s).toList == s.toList) by simp [valueS, ht])
    have H1 := Aside0.mk ht
    clear ht
    go_enter Tryd.func134, Tryd.ntmps134
    go_wp2_with (first | (go_at_call 100; refine (text_calls s w hl hs).mono ?_; rintro e w' ⟨rfl, hb⟩; rw [H1.out]) | (go_at_call 120; refine (trim_calls s _ hs).mono ?_; rintro e w2 ⟨rfl, hb2⟩))
    go_ret
    exact ⟨by rw [HT.out]; rfl, below_then hb hb.size hb2⟩
theorem right_calls (n v : ByteArray) (w : World) (hl : EndsAt w) (hn : n.size ≤ 9223372036854775806) (hv : v.size ≤ 9223372036854775806) :
    Calls Tryd.prog 121 #[.agg #[.string n, .string v]] w fun e w' => e = .returned (.bool (rightS n v)) ∧ Below w.heap.size w w' := by
  cases ht : tokenS n with
  | false =>
    have HT := Aside0.mk (show rightS n v = false by simp [rightS, ht])
    have H1 := Aside0.mk ht
    have HL := Aside0.mk hl
    clear ht hl
    go_enter Tryd.func121, Tryd.ntmps121
    go_wp2_with (go_at_call 101; refine (token_calls n _ (HL.out.below ((Below.refl _ _).alloc (Nat.le_refl _) _)) hn).mono ?_; rintro e w' ⟨rfl, hb⟩; rw [H1.out])
    go_ret
    exact ⟨by rw [HT.out]; rfl, below_then ((Below.refl _ _).alloc (Nat.le_refl _) _) (by simp) hb⟩
  | true =>
    have HT := Aside0.mk (show rightS n v = valueS v by simp [rightS, ht])
    have H1 := Aside0.mk ht
    have HL := Aside0.mk hl
    clear ht hl
    go_enter Tryd.func121, Tryd.ntmps121
    go_wp2_with fail
    refine (token_calls n _ (HL.out.below ((Below.refl _ _).alloc (Nat.le_refl _) _)) hn).mono ?_
    rintro e w1 ⟨rfl, hb⟩
    rw [H1.out]
    have hc : w1.cell? ⟨w.heap.size, 1, none⟩ = some (.string v) := (hb.cell (p := ⟨w.heap.size, 1, none⟩) (by simp)).trans (World.cell?_alloc_new w #[.string n, .string v] 53 1)
    have hb' : Below w.heap.size w w1 := below_then ((Below.refl _ _).alloc (Nat.le_refl _) _) (by simp) hb
    have HB := Aside0.mk hb'
    clear hb hb'
    go_wp2_with (go_at_call 134; refine (value_calls v _ (HL.out.below HB.out) hv).mono ?_; rintro e w2 ⟨rfl, hb2⟩)
    go_ret
    exact ⟨by rw [HT.out]; rfl, below_then HB.out HB.out.size hb2⟩

def strL (l : List UInt8) : ByteArray := ⟨l.toArray⟩
def cutN (s : ByteArray) : ByteArray := strL (Lib.cut s.data.toList [58]).1
def cutV (s : ByteArray) : ByteArray := trimS (strL (Lib.cut s.data.toList [58]).2.1)
def cutOk (s : ByteArray) : Bool := (Lib.cut s.data.toList [58]).2.2
def parseOk (s : ByteArray) : Bool := cutOk s && rightS (cutN s) (cutV s)

def parseRet (s : ByteArray) : Value := .tuple (if parseOk s = true then #[.agg #[.string (cutN s), .string (cutV s)], .int .i64 0] else #[.agg #[.string ⟨#[]⟩, .string ⟨#[]⟩], .int .i64 2])
theorem parseRet_ok {s : ByteArray} (h : parseOk s = true) : parseRet s = .tuple #[.agg #[.string (cutN s), .string (cutV s)], .int .i64 0] := by simp [parseRet, h]
theorem parseRet_no {s : ByteArray} (h : parseOk s = false) : parseRet s = .tuple #[.agg #[.string ⟨#[]⟩, .string ⟨#[]⟩], .int .i64 2] := by simp [parseRet, h]

theorem strL_size (l : List UInt8) : (strL l).size = l.length := by simp [strL, ByteArray.size]
theorem cutN_size (s : ByteArray) : (cutN s).size ≤ s.size := by
  rw [cutN, strL_size, Lib.size_eq s]
  unfold Lib.cut
  split
  · exact (List.take_sublist _ _).length_le
  · exact Nat.le_refl _
theorem cutR_size (s : ByteArray) : (strL (Lib.cut s.data.toList [58]).2.1).size ≤ s.size := by
  rw [strL_size, Lib.size_eq s]
  unfold Lib.cut
  split
  · exact (List.drop_sublist _ _).length_le
  · exact Nat.zero_le _

/-- The package's variables as the walks need them: octet.ends, and bytealg.MaxLen some int. -/
def Vars (w : World) : Prop := EndsAt w ∧ ∃ m, w.cell? ⟨1, 0, none⟩ = some (.int .i64 m)
theorem Vars.below {w w' : World} (h : Vars w) (hb : Below w.heap.size w w') : Vars w' := ⟨h.1.below hb, h.2.imp fun _ hm => (hb.cell (World.block_lt_of_cell? w _ hm)).trans hm⟩

theorem below_drawn {B : Nat} {w w' w2 : World} (h : Below B w w') (hd : ∃ n, w2 = w'.drewN n) : Below B w w2 := by
  obtain ⟨n, rfl⟩ := hd
  exact pw_below_drewN h n
theorem below_alloc' {B : Nat} {w w' : World} (h : Below B w w') (hB : B ≤ w.heap.size) (o : Obj) : Below B w (w'.alloc o) := h.alloc (Nat.le_trans hB h.size) o

theorem froz_alloc (w : World) (o : Obj) (a : Addr) (h : a.block < w.heap.size) : (w.alloc o).frozen? a = w.frozen? a := ((Below.refl w.heap.size w).alloc (Nat.le_refl _) o).frozen (p := a) h
theorem two_cells {W : World} {b : Nat} {x0 x1 : Value} (h0 : W.cell? ⟨b, 0, none⟩ = some x0) (h1 : W.cell? ⟨b, 1, none⟩ = some x1) (v0 v1 : Value) :
    ((W.setCell ⟨b, 0, none⟩ v0).setCell ⟨b, 1, none⟩ v1).cell? ⟨b, 0, none⟩ = some v0 ∧ ((W.setCell ⟨b, 0, none⟩ v0).setCell ⟨b, 1, none⟩ v1).cell? ⟨b, 1, none⟩ = some v1 := by
  have e1 : (W.setCell ⟨b, 0, none⟩ v0).cell? ⟨b, 0, none⟩ = some v0 := World.cell?_setCell_same' _ _ _ (by rw [h0]; rfl)
  have e2 : (W.setCell ⟨b, 0, none⟩ v0).cell? ⟨b, 1, none⟩ = some x1 := (World.cell?_setCell_other W ⟨b, 0, none⟩ ⟨b, 1, none⟩ v0 (by simp)).trans h1
  exact ⟨(World.cell?_setCell_other _ ⟨b, 1, none⟩ ⟨b, 0, none⟩ v1 (by simp)).trans e1, World.cell?_setCell_same' _ _ _ (by rw [e2]; rfl)⟩
theorem two_cells_alloc {W : World} {b : Nat} {x0 x1 : Value} (h0 : W.cell? ⟨b, 0, none⟩ = some x0) (h1 : W.cell? ⟨b, 1, none⟩ = some x1) (v0 v1 : Value) (o : Obj) :
    (((W.setCell ⟨b, 0, none⟩ v0).setCell ⟨b, 1, none⟩ v1).alloc o).cell? ⟨b, 0, none⟩ = some v0 ∧ (((W.setCell ⟨b, 0, none⟩ v0).setCell ⟨b, 1, none⟩ v1).alloc o).cell? ⟨b, 1, none⟩ = some v1 := by
  have h := two_cells h0 h1 v0 v1
  have l0 := World.block_lt_of_cell? _ _ h.1
  exact ⟨(World.cell?_alloc_lt _ o _ l0).trans h.1, (World.cell?_alloc_lt _ o ⟨b, 1, none⟩ l0).trans h.2⟩

set_option maxHeartbeats 1000000 in
theorem parse_calls (s : ByteArray) (w : World) (hl : Vars w) (hs : s.size < 4294967281) :
    Calls Tryd.prog 103 #[.string s] w fun e w' => e = .returned (parseRet s) ∧ Below w.heap.size w w' := by
  have HN := Aside0.mk (cutN_size s)
  have HR := Aside0.mk (cutR_size s)
  have HV := Aside0.mk (trimS_size (strL (Lib.cut s.data.toList [58]).2.1))
  have HL := Aside0.mk hl
  have HS := Aside0.mk hs
  obtain ⟨_, m, hm⟩ := hl
  have HM := Aside0.mk hm
  clear hm hs
  have B0 := (Below.refl w.heap.size w).alloc (Nat.le_refl _) (.cells #[.string ⟨#[]⟩, .string ⟨#[]⟩] 53)
  have HB0 := Aside0.mk B0
  clear B0
  go_enter Tryd.func103, Tryd.ntmps103
  go_wp2_with fail
  refine (Tryd.strings_Cut s ⟨#[58]⟩ m _ HS.out ((HB0.out.cell (p := ⟨1, 0, none⟩) (World.block_lt_of_cell? w _ HM.out)).trans HM.out)).mono ?_
  rintro e w1 ⟨rfl, n1, rfl⟩
  go_wp2_with fail
  refine (trim_calls (strL (Lib.cut s.data.toList [58]).2.1) _ (by have := HR.out; have := HS.out; omega)).mono ?_
  rintro e w2 ⟨rfl, hb2⟩
  have hB2 : Below w.heap.size w w2 := below_then (pw_below_drewN HB0.out n1) (by simp) hb2
  have hc0 : w2.cell? ⟨w.heap.size, 0, none⟩ = some (.string ⟨#[]⟩) := (hb2.cell (p := ⟨w.heap.size, 0, none⟩) (by simp)).trans (by simp)
  have hc1 : w2.cell? ⟨w.heap.size, 1, none⟩ = some (.string ⟨#[]⟩) := (hb2.cell (p := ⟨w.heap.size, 1, none⟩) (by simp)).trans (by simp)
  have hf0 : w2.frozen? ⟨w.heap.size, 0, none⟩ = false := (hb2.frozen (p := ⟨w.heap.size, 0, none⟩) (by simp)).trans (by simp)
  have hf1 : w2.frozen? ⟨w.heap.size, 1, none⟩ = false := (hb2.frozen (p := ⟨w.heap.size, 1, none⟩) (by simp)).trans (by simp)
  have hz2 : w.heap.size < w2.heap.size := by have := hb2.size; simp at this; omega
  have HB2 := Aside0.mk hB2
  clear hb2 hB2
  cases hok : cutOk s with
  | false =>
    have HP := Aside0.mk (show parseOk s = false by simp [parseOk, hok])
    have hok' : (Lib.cut s.data.toList [58]).2.2 = false := hok
    clear hok
    go_wp2_with fail
    obtain ⟨q0, q1⟩ := two_cells_alloc hc0 hc1 (.string ⟨#[]⟩) (.string ⟨#[]⟩) (.cells #[.string ⟨(Lib.cut s.data.toList [58]).1.toArray⟩, .string (trimS (strL (Lib.cut s.data.toList [58]).2.1))] 53)
    refine bodyPost_ret (v := .tuple #[.agg #[.string ⟨#[]⟩, .string ⟨#[]⟩], .int .i64 2]) (by simp [results, Tryd.results103, go_sem, q0, q1]) rfl ⟨by rw [parseRet_no HP.out], ?_⟩
    exact ((HB2.out.setCell (p := ⟨w.heap.size, 0, none⟩) (Nat.le_refl _) _).setCell (p := ⟨w.heap.size, 1, none⟩) (Nat.le_refl _) _).alloc (by simp; omega) _
  | true =>
    have hok' : (Lib.cut s.data.toList [58]).2.2 = true := hok
    have HW2 := Aside0.mk (HB2.out.alloc (Nat.le_of_lt hz2) (.cells #[.string (cutN s), .string (cutV s)] 53))
    cases hr : rightS (cutN s) (cutV s) with
    | false =>
      have HP := Aside0.mk (show parseOk s = false by simp [parseOk, hr])
      have HRR := Aside0.mk hr
      clear hok hr
      go_wp2_with fail
      refine (right_calls (cutN s) (cutV s) _ (HL.out.below HW2.out).1 (by have := HN.out; have := HS.out; omega) (by have := HV.out; have := HR.out; have := HS.out; unfold cutV; omega)).mono ?_
      rintro e w3 ⟨rfl, hb3⟩
      rw [HRR.out]
      have g0 : w3.cell? ⟨w.heap.size, 0, none⟩ = some (.string ⟨#[]⟩) := (hb3.cell (p := ⟨w.heap.size, 0, none⟩) (by simp; omega)).trans ((World.cell?_alloc_lt _ _ ⟨w.heap.size, 0, none⟩ hz2).trans hc0)
      have g1 : w3.cell? ⟨w.heap.size, 1, none⟩ = some (.string ⟨#[]⟩) := (hb3.cell (p := ⟨w.heap.size, 1, none⟩) (by simp; omega)).trans ((World.cell?_alloc_lt _ _ ⟨w.heap.size, 1, none⟩ hz2).trans hc1)
      have k0 : w3.frozen? ⟨w.heap.size, 0, none⟩ = false := (hb3.frozen (p := ⟨w.heap.size, 0, none⟩) (by simp; omega)).trans ((froz_alloc w2 _ ⟨w.heap.size, 0, none⟩ hz2).trans hf0)
      have k1 : w3.frozen? ⟨w.heap.size, 1, none⟩ = false := (hb3.frozen (p := ⟨w.heap.size, 1, none⟩) (by simp; omega)).trans ((froz_alloc w2 _ ⟨w.heap.size, 1, none⟩ hz2).trans hf1)
      have j0 : w3.cell? ⟨w2.heap.size, 0, none⟩ = some (.string (cutN s)) := (hb3.cell (p := ⟨w2.heap.size, 0, none⟩) (by simp)).trans (World.cell?_alloc_new w2 #[.string (cutN s), .string (cutV s)] 53 0)
      have j1 : w3.cell? ⟨w2.heap.size, 1, none⟩ = some (.string (cutV s)) := (hb3.cell (p := ⟨w2.heap.size, 1, none⟩) (by simp)).trans (World.cell?_alloc_new w2 #[.string (cutN s), .string (cutV s)] 53 1)
      have HB3 := Aside0.mk (below_then HW2.out HW2.out.size hb3)
      have HF := Aside0.mk (And.intro hc0 (And.intro hc1 (And.intro hf0 hf1)))
      clear hb3 hc0 hc1 hf0 hf1
      go_wp2_with fail
      obtain ⟨q0, q1⟩ := two_cells g0 g1 (.string ⟨#[]⟩) (.string ⟨#[]⟩)
      refine bodyPost_ret (v := .tuple #[.agg #[.string ⟨#[]⟩, .string ⟨#[]⟩], .int .i64 2]) (by simp [results, Tryd.results103, go_sem, q0, q1]) rfl ⟨by rw [parseRet_no HP.out], ?_⟩
      exact (HB3.out.setCell (p := ⟨w.heap.size, 0, none⟩) (Nat.le_refl _) _).setCell (p := ⟨w.heap.size, 1, none⟩) (Nat.le_refl _) _
    | true =>
      have HP := Aside0.mk (show parseOk s = true by simp [parseOk, hok, hr])
      have HRR := Aside0.mk hr
      clear hok hr
      go_wp2_with fail
      refine (right_calls (cutN s) (cutV s) _ (HL.out.below HW2.out).1 (by have := HN.out; have := HS.out; omega) (by have := HV.out; have := HR.out; have := HS.out; unfold cutV; omega)).mono ?_
      rintro e w3 ⟨rfl, hb3⟩
      rw [HRR.out]
      have g0 : w3.cell? ⟨w.heap.size, 0, none⟩ = some (.string ⟨#[]⟩) := (hb3.cell (p := ⟨w.heap.size, 0, none⟩) (by simp; omega)).trans ((World.cell?_alloc_lt _ _ ⟨w.heap.size, 0, none⟩ hz2).trans hc0)
      have g1 : w3.cell? ⟨w.heap.size, 1, none⟩ = some (.string ⟨#[]⟩) := (hb3.cell (p := ⟨w.heap.size, 1, none⟩) (by simp; omega)).trans ((World.cell?_alloc_lt _ _ ⟨w.heap.size, 1, none⟩ hz2).trans hc1)
      have k0 : w3.frozen? ⟨w.heap.size, 0, none⟩ = false := (hb3.frozen (p := ⟨w.heap.size, 0, none⟩) (by simp; omega)).trans ((froz_alloc w2 _ ⟨w.heap.size, 0, none⟩ hz2).trans hf0)
      have k1 : w3.frozen? ⟨w.heap.size, 1, none⟩ = false := (hb3.frozen (p := ⟨w.heap.size, 1, none⟩) (by simp; omega)).trans ((froz_alloc w2 _ ⟨w.heap.size, 1, none⟩ hz2).trans hf1)
      have j0 : w3.cell? ⟨w2.heap.size, 0, none⟩ = some (.string (cutN s)) := (hb3.cell (p := ⟨w2.heap.size, 0, none⟩) (by simp)).trans (World.cell?_alloc_new w2 #[.string (cutN s), .string (cutV s)] 53 0)
      have j1 : w3.cell? ⟨w2.heap.size, 1, none⟩ = some (.string (cutV s)) := (hb3.cell (p := ⟨w2.heap.size, 1, none⟩) (by simp)).trans (World.cell?_alloc_new w2 #[.string (cutN s), .string (cutV s)] 53 1)
      have HB3 := Aside0.mk (below_then HW2.out HW2.out.size hb3)
      have HF := Aside0.mk (And.intro hc0 (And.intro hc1 (And.intro hf0 hf1)))
      clear hb3 hc0 hc1 hf0 hf1
      go_wp2_with fail
      obtain ⟨q0, q1⟩ := two_cells g0 g1 (.string (cutN s)) (.string (cutV s))
      refine bodyPost_ret (v := .tuple #[.agg #[.string (cutN s), .string (cutV s)], .int .i64 0]) (by simp [results, Tryd.results103, go_sem, q0, q1]) rfl ⟨by rw [parseRet_ok HP.out], ?_⟩
      exact (HB3.out.setCell (p := ⟨w.heap.size, 0, none⟩) (Nat.le_refl _) _).setCell (p := ⟨w.heap.size, 1, none⟩) (Nat.le_refl _) _
end Go.Proofs.YtebjfgkgfgbndaaDoor

namespace Go.Proofs.YtebjfgkgfgbndaaDoor
open Go.RowKit Go.Proofs.YtebjfgkgfgbndaaDoorW.PrintWords Go.Proofs.YtebjfgkgfgbndaaDoorW.PrintLast Go.Proofs.YtebjfgkgfgbndaaDoorW.PrintMore
open PBodyScans
set_option linter.unusedVariables false
set_option linter.unusedSimpArgs false

def lowC (c : Int) : Int := Go.bits .or .u8 c 32
def digV (c : Int) : Int := if 48 ≤ c ∧ c ≤ 57 then c - 48 else if 97 ≤ lowC c ∧ lowC c ≤ 102 then lowC c - 87 else -1
theorem digV_range (c : Int) : -1 ≤ digV c ∧ digV c ≤ 15 := by
  unfold digV
  split
  · omega
  · split <;> omega
theorem digV_f (c : Int) : hexa_Digit.f 1 c = some (digV c) := by
  unfold hexa_Digit.f digV
  simp only [hexa_Digit.j0]
  have e : Go.bits .or .u8 c 32 = lowC c := rfl
  rw [e]
  generalize lowC c = b
  by_cases h1 : c ≥ 48 <;> by_cases h2 : c ≤ 57 <;> by_cases h3 : b ≥ 97 <;> by_cases h4 : b ≤ 102 <;>
    simp [h1, h2, h3, h4] <;> omega

def moreN (n c : Int) : Int × Int := if digV c < 0 then (0, 2) else if n > (4611686018427387903 - digV c) / 16 then (0, 3) else (16 * n + digV c, 0)
theorem u64_in (x : Int) (h0 : 0 ≤ x) (h1 : x < 18446744073709551616) : IntKind.u64.wrap x = x := by
  show x % 18446744073709551616 = x
  omega
theorem more_f (n c : Int) (h0 : 0 ≤ n) (h1 : n ≤ 4611686018427387903) : hexa_More.f 1 n c = some (moreN n c) := by
  have hr := digV_range c
  unfold hexa_More.f moreN
  rw [digV_f]
  simp only [Option.bind_some]
  by_cases h : digV c < 0
  · rw [if_pos h, if_pos h]
  · rw [if_neg h, if_neg h]
    rw [u64_in (digV c) (by omega) (by omega), u64_in (4611686018427387903 - digV c) (by omega) (by omega), Int.tdiv_eq_ediv_of_nonneg (by omega), u64_in ((4611686018427387903 - digV c) / 16) (by omega) (by omega)]
    by_cases h2 : n > (4611686018427387903 - digV c) / 16
    · rw [if_pos h2, if_pos h2]
    · rw [if_neg h2, if_neg h2, u64_in (16 * n) (by omega) (by omega), u64_in (16 * n + digV c) (by omega) (by omega)]

/-- A decoder's fields. -/
structure Dc where
  ext : Int
  flds : Int
  byts : Int
  place : Int
  n : Int
  count : Int
  lines : Int
  size : Int
  line : List Int
  fields : List S53
  taken : Int
  given : Int
  e : Int

def dcCells (d : Dc) (vl vf : Value) : Array Value := #[.int .i64 d.ext, .int .i64 d.flds, .int .i64 d.byts, .int .i64 d.place, .int .u64 d.n, .int .i64 d.count, .int .i64 d.lines, .int .i64 d.size, vl, vf, .int .i64 d.taken, .int .i64 d.given, .int .i64 d.e]

/-- In block g lies a decoder d; its rows lie from B on, in blocks of S. -/
def DcAt (w : World) (B g : Nat) (S : Nat → Prop) (d : Dc) : Prop :=
  B ≤ g ∧ ∃ vl vf, w.heap[g]? = some (.cells (dcCells d vl vf) 100 (0, 0)) ∧ Kd.R (Kd.int .u8) 5 w B S vl d.line ∧ Kd.R k53 53 w B S vf d.fields

theorem DcAt.lt {w : World} {B g : Nat} {S : Nat → Prop} {d : Dc} (h : DcAt w B g S d) : g < w.heap.size := by
  obtain ⟨_, _, _, h, _⟩ := h
  exact (Array.getElem?_eq_some_iff.1 h).1
theorem DcAt.le {w : World} {B g : Nat} {S : Nat → Prop} {d : Dc} (h : DcAt w B g S d) : B ≤ w.heap.size := Nat.le_trans h.1 (Nat.le_of_lt h.lt)
theorem DcAt.frozen {w : World} {B g : Nat} {S : Nat → Prop} {d : Dc} (h : DcAt w B g S d) (j : Nat) : w.frozen? ⟨g, j, none⟩ = false := by
  obtain ⟨_, _, _, h, _⟩ := h
  simp [World.frozen?, h]
theorem DcAt.mono {w : World} {B g : Nat} {S S' : Nat → Prop} {d : Dc} (h : DcAt w B g S d) (hs : ∀ k, S k → S' k) : DcAt w B g S' d := by
  obtain ⟨h0, vl, vf, h1, h2, h3⟩ := h
  exact ⟨h0, vl, vf, h1, Kd.R_mono h2 hs, Kd.R_mono h3 hs⟩
/-- What is neither the decoder nor a block of its rows may turn. -/
theorem DcAt.move {w w1 : World} {B g : Nat} {S : Nat → Prop} {d : Dc} (h : DcAt w B g S d) (hm : ∀ k, k < w.heap.size → k = g ∨ S k → w1.heap[k]? = w.heap[k]?) : DcAt w1 B g S d := by
  have hlt := h.lt
  obtain ⟨h0, vl, vf, h1, h2, h3⟩ := h
  exact ⟨h0, vl, vf, (hm g hlt (.inl rfl)).trans h1, Kd.R_step h2 (fun k hk hl => hm k hl (.inr hk)), Kd.R_step h3 (fun k hk hl => hm k hl (.inr hk))⟩
theorem DcAt.below {w w1 : World} {B g : Nat} {S : Nat → Prop} {d : Dc} (h : DcAt w B g S d) (hb : Below w.heap.size w w1) : DcAt w1 B g S d := h.move fun k hk _ => hb.block k hk
/-- A store into the decoder's own block. -/
theorem DcAt.setc {w : World} {B g : Nat} {S : Nat → Prop} {d d' : Dc} (h : DcAt w B g S d) (j : Nat) (v : Value) (hl : d'.line = d.line) (hf : d'.fields = d.fields)
    (hv : ∀ vl vf, (dcCells d vl vf).setIfInBounds j v = dcCells d' vl vf) : DcAt (w.setCell ⟨g, j, none⟩ v) B g S d' := by
  obtain ⟨h0, vl, vf, h1, h2, h3⟩ := h
  refine ⟨h0, vl, vf, ?_, ?_, ?_⟩
  · show (w.heap.modify g _)[g]? = _
    obtain ⟨hlt, he⟩ := Array.getElem?_eq_some_iff.1 h1
    rw [Array.getElem?_eq_getElem (by rw [Array.size_modify]; exact hlt), Array.getElem_modify_self, he]
    simp only [Option.isSome_none, Bool.false_eq_true, if_false, hv]
  · rw [hl]; exact Kd.R_set h2 h1 (by simp [Kd.int, Kd.scalar]) j v
  · rw [hf]; exact Kd.R_set h3 h1 (by simp [k53, Kd.iso, Kd.pair, Kd.string, Kd.scalar]) j v
theorem kept_set {w : World} {W : World} {S : Nat → Prop} (h : Kept w W S) {g : Nat} (hg : S g) (j : Nat) (v : Value) : Kept w (W.setCell ⟨g, j, none⟩ v) S := by
  refine ⟨?_, fun i hi hs => ?_⟩
  · show w.heap.size ≤ (W.heap.modify g _).size
    rw [Array.size_modify]; exact h.1
  · exact (Below.heap_setCell W ⟨g, j, none⟩ v i (fun e => hs (by rw [e]; exact hg))).trans (h.2 i hi hs)
theorem kept_below {w w1 w2 : World} {S : Nat → Prop} (h : Kept w w1 S) (hb : Below w1.heap.size w1 w2) : Kept w w2 S :=
  ⟨Nat.le_trans h.1 hb.size, fun i hi hs => (hb.block i (Nat.lt_of_lt_of_le hi h.1)).trans (h.2 i hi hs)⟩
theorem kept_of_below {w w1 : World} (S : Nat → Prop) (hb : Below w.heap.size w w1) : Kept w w1 S := ⟨hb.size, fun i hi _ => hb.block i hi⟩

theorem DcAt.set_ext {w : World} {B g : Nat} {S : Nat → Prop} {d : Dc} (h : DcAt w B g S d) (x : Int) : DcAt (w.setCell ⟨g, 0, none⟩ (.int .i64 x)) B g S { d with ext := x } := h.setc 0 _ rfl rfl (fun _ _ => rfl)
theorem DcAt.get_ext {w : World} {B g : Nat} {S : Nat → Prop} {d : Dc} (h : DcAt w B g S d) : w.cell? ⟨g, 0, none⟩ = some (.int .i64 d.ext) := by
  obtain ⟨_, _, _, h, _⟩ := h
  simp [World.cell?, h, dcCells]
theorem DcAt.set_flds {w : World} {B g : Nat} {S : Nat → Prop} {d : Dc} (h : DcAt w B g S d) (x : Int) : DcAt (w.setCell ⟨g, 1, none⟩ (.int .i64 x)) B g S { d with flds := x } := h.setc 1 _ rfl rfl (fun _ _ => rfl)
theorem DcAt.get_flds {w : World} {B g : Nat} {S : Nat → Prop} {d : Dc} (h : DcAt w B g S d) : w.cell? ⟨g, 1, none⟩ = some (.int .i64 d.flds) := by
  obtain ⟨_, _, _, h, _⟩ := h
  simp [World.cell?, h, dcCells]
theorem DcAt.set_byts {w : World} {B g : Nat} {S : Nat → Prop} {d : Dc} (h : DcAt w B g S d) (x : Int) : DcAt (w.setCell ⟨g, 2, none⟩ (.int .i64 x)) B g S { d with byts := x } := h.setc 2 _ rfl rfl (fun _ _ => rfl)
theorem DcAt.get_byts {w : World} {B g : Nat} {S : Nat → Prop} {d : Dc} (h : DcAt w B g S d) : w.cell? ⟨g, 2, none⟩ = some (.int .i64 d.byts) := by
  obtain ⟨_, _, _, h, _⟩ := h
  simp [World.cell?, h, dcCells]
theorem DcAt.set_place {w : World} {B g : Nat} {S : Nat → Prop} {d : Dc} (h : DcAt w B g S d) (x : Int) : DcAt (w.setCell ⟨g, 3, none⟩ (.int .i64 x)) B g S { d with place := x } := h.setc 3 _ rfl rfl (fun _ _ => rfl)
theorem DcAt.get_place {w : World} {B g : Nat} {S : Nat → Prop} {d : Dc} (h : DcAt w B g S d) : w.cell? ⟨g, 3, none⟩ = some (.int .i64 d.place) := by
  obtain ⟨_, _, _, h, _⟩ := h
  simp [World.cell?, h, dcCells]
theorem DcAt.set_n {w : World} {B g : Nat} {S : Nat → Prop} {d : Dc} (h : DcAt w B g S d) (x : Int) : DcAt (w.setCell ⟨g, 4, none⟩ (.int .u64 x)) B g S { d with n := x } := h.setc 4 _ rfl rfl (fun _ _ => rfl)
theorem DcAt.get_n {w : World} {B g : Nat} {S : Nat → Prop} {d : Dc} (h : DcAt w B g S d) : w.cell? ⟨g, 4, none⟩ = some (.int .u64 d.n) := by
  obtain ⟨_, _, _, h, _⟩ := h
  simp [World.cell?, h, dcCells]
theorem DcAt.set_count {w : World} {B g : Nat} {S : Nat → Prop} {d : Dc} (h : DcAt w B g S d) (x : Int) : DcAt (w.setCell ⟨g, 5, none⟩ (.int .i64 x)) B g S { d with count := x } := h.setc 5 _ rfl rfl (fun _ _ => rfl)
theorem DcAt.get_count {w : World} {B g : Nat} {S : Nat → Prop} {d : Dc} (h : DcAt w B g S d) : w.cell? ⟨g, 5, none⟩ = some (.int .i64 d.count) := by
  obtain ⟨_, _, _, h, _⟩ := h
  simp [World.cell?, h, dcCells]
theorem DcAt.set_lines {w : World} {B g : Nat} {S : Nat → Prop} {d : Dc} (h : DcAt w B g S d) (x : Int) : DcAt (w.setCell ⟨g, 6, none⟩ (.int .i64 x)) B g S { d with lines := x } := h.setc 6 _ rfl rfl (fun _ _ => rfl)
theorem DcAt.get_lines {w : World} {B g : Nat} {S : Nat → Prop} {d : Dc} (h : DcAt w B g S d) : w.cell? ⟨g, 6, none⟩ = some (.int .i64 d.lines) := by
  obtain ⟨_, _, _, h, _⟩ := h
  simp [World.cell?, h, dcCells]
theorem DcAt.set_size {w : World} {B g : Nat} {S : Nat → Prop} {d : Dc} (h : DcAt w B g S d) (x : Int) : DcAt (w.setCell ⟨g, 7, none⟩ (.int .i64 x)) B g S { d with size := x } := h.setc 7 _ rfl rfl (fun _ _ => rfl)
theorem DcAt.get_size {w : World} {B g : Nat} {S : Nat → Prop} {d : Dc} (h : DcAt w B g S d) : w.cell? ⟨g, 7, none⟩ = some (.int .i64 d.size) := by
  obtain ⟨_, _, _, h, _⟩ := h
  simp [World.cell?, h, dcCells]
theorem DcAt.set_taken {w : World} {B g : Nat} {S : Nat → Prop} {d : Dc} (h : DcAt w B g S d) (x : Int) : DcAt (w.setCell ⟨g, 10, none⟩ (.int .i64 x)) B g S { d with taken := x } := h.setc 10 _ rfl rfl (fun _ _ => rfl)
theorem DcAt.get_taken {w : World} {B g : Nat} {S : Nat → Prop} {d : Dc} (h : DcAt w B g S d) : w.cell? ⟨g, 10, none⟩ = some (.int .i64 d.taken) := by
  obtain ⟨_, _, _, h, _⟩ := h
  simp [World.cell?, h, dcCells]
theorem DcAt.set_given {w : World} {B g : Nat} {S : Nat → Prop} {d : Dc} (h : DcAt w B g S d) (x : Int) : DcAt (w.setCell ⟨g, 11, none⟩ (.int .i64 x)) B g S { d with given := x } := h.setc 11 _ rfl rfl (fun _ _ => rfl)
theorem DcAt.get_given {w : World} {B g : Nat} {S : Nat → Prop} {d : Dc} (h : DcAt w B g S d) : w.cell? ⟨g, 11, none⟩ = some (.int .i64 d.given) := by
  obtain ⟨_, _, _, h, _⟩ := h
  simp [World.cell?, h, dcCells]
theorem DcAt.set_e {w : World} {B g : Nat} {S : Nat → Prop} {d : Dc} (h : DcAt w B g S d) (x : Int) : DcAt (w.setCell ⟨g, 12, none⟩ (.int .i64 x)) B g S { d with e := x } := h.setc 12 _ rfl rfl (fun _ _ => rfl)
theorem DcAt.get_e {w : World} {B g : Nat} {S : Nat → Prop} {d : Dc} (h : DcAt w B g S d) : w.cell? ⟨g, 12, none⟩ = some (.int .i64 d.e) := by
  obtain ⟨_, _, _, h, _⟩ := h
  simp [World.cell?, h, dcCells]

/-- Midway in a decoder's method. -/
def Mid (w : World) (B g : Nat) (S : Nat → Prop) (d : Dc) (W : World) : Prop :=
  DcAt W B g (fun k => S k ∨ w.heap.size ≤ k) d ∧ Below B w W ∧ Kept w W (fun k => k = g ∨ S k)
/-- What a decoder's method leaves. -/
def MPost (w : World) (B g : Nat) (S : Nat → Prop) (r : Dc × Int) (e : Ending) (w' : World) : Prop := e = .returned (.int .i64 r.2) ∧ Mid w B g S r.1 w'
theorem Mid.start {w : World} {B g : Nat} {S : Nat → Prop} {d : Dc} (h : DcAt w B g S d) : Mid w B g S d w := ⟨h.mono fun _ hs => .inl hs, Below.refl _ _, Kept.refl _ _⟩
theorem Mid.le {w W : World} {B g : Nat} {S : Nat → Prop} {d : Dc} (h : Mid w B g S d W) : B ≤ W.heap.size := h.1.le
theorem Mid.frozen {w W : World} {B g : Nat} {S : Nat → Prop} {d : Dc} (h : Mid w B g S d W) (j : Nat) : W.frozen? ⟨g, j, none⟩ = false := h.1.frozen j
theorem Mid.below {w W W' : World} {B g : Nat} {S : Nat → Prop} {d : Dc} (h : Mid w B g S d W) (hb : Below W.heap.size W W') : Mid w B g S d W' :=
  ⟨h.1.below hb, below_then h.2.1 h.le hb, kept_below h.2.2 hb⟩
theorem Mid.drawn {w W : World} {B g : Nat} {S : Nat → Prop} {d : Dc} (h : Mid w B g S d W) (n : Nat) : Mid w B g S d (W.drewN n) := h.below (Drawn0.below ⟨n, rfl⟩)
theorem Mid.alloc {w W : World} {B g : Nat} {S : Nat → Prop} {d : Dc} (h : Mid w B g S d W) (o : Obj) : Mid w B g S d (W.alloc o) := h.below ((Below.refl _ _).alloc (Nat.le_refl _) o)
theorem Mid.vars {w W : World} {B g : Nat} {S : Nat → Prop} {d : Dc} (h : Mid w B g S d W) (hv : Vars w) (hg : 2 ≤ B) : Vars W :=
  ⟨(h.2.1.block 0 (by omega)).trans hv.1, hv.2.imp fun _ hm => (h.2.1.cell (p := ⟨1, 0, none⟩) (by simp; omega)).trans hm⟩
/-- A call of another method. -/
theorem Mid.then {w W w' : World} {B g : Nat} {S : Nat → Prop} {d : Dc} (h : Mid w B g S d W) {d' : Dc} (k : Mid W B g (fun k => S k ∨ w.heap.size ≤ k) d' w') : Mid w B g S d' w' :=
  ⟨k.1.mono fun _ hs => hs.elim id (fun hs => .inr (Nat.le_trans h.2.2.1 hs)), h.2.1.trans k.2.1,
    ⟨Nat.le_trans h.2.2.1 k.2.2.1, fun i hi hs => (k.2.2.2 i (Nat.lt_of_lt_of_le hi h.2.2.1) (fun hc => hc.elim (fun e => hs (.inl e)) (fun e => e.elim (fun e => hs (.inr e)) (fun e => by omega)))).trans (h.2.2.2 i hi hs)⟩⟩
theorem Mid.set_ext {w W : World} {B g : Nat} {S : Nat → Prop} {d : Dc} (h : Mid w B g S d W) (x : Int) : Mid w B g S { d with ext := x } (W.setCell ⟨g, 0, none⟩ (.int .i64 x)) :=
  ⟨h.1.set_ext x, h.2.1.setCell (p := ⟨g, 0, none⟩) h.1.1 _, kept_set h.2.2 (.inl rfl) 0 _⟩
theorem Mid.set_flds {w W : World} {B g : Nat} {S : Nat → Prop} {d : Dc} (h : Mid w B g S d W) (x : Int) : Mid w B g S { d with flds := x } (W.setCell ⟨g, 1, none⟩ (.int .i64 x)) :=
  ⟨h.1.set_flds x, h.2.1.setCell (p := ⟨g, 1, none⟩) h.1.1 _, kept_set h.2.2 (.inl rfl) 1 _⟩
theorem Mid.set_byts {w W : World} {B g : Nat} {S : Nat → Prop} {d : Dc} (h : Mid w B g S d W) (x : Int) : Mid w B g S { d with byts := x } (W.setCell ⟨g, 2, none⟩ (.int .i64 x)) :=
  ⟨h.1.set_byts x, h.2.1.setCell (p := ⟨g, 2, none⟩) h.1.1 _, kept_set h.2.2 (.inl rfl) 2 _⟩
theorem Mid.set_place {w W : World} {B g : Nat} {S : Nat → Prop} {d : Dc} (h : Mid w B g S d W) (x : Int) : Mid w B g S { d with place := x } (W.setCell ⟨g, 3, none⟩ (.int .i64 x)) :=
  ⟨h.1.set_place x, h.2.1.setCell (p := ⟨g, 3, none⟩) h.1.1 _, kept_set h.2.2 (.inl rfl) 3 _⟩
theorem Mid.set_n {w W : World} {B g : Nat} {S : Nat → Prop} {d : Dc} (h : Mid w B g S d W) (x : Int) : Mid w B g S { d with n := x } (W.setCell ⟨g, 4, none⟩ (.int .u64 x)) :=
  ⟨h.1.set_n x, h.2.1.setCell (p := ⟨g, 4, none⟩) h.1.1 _, kept_set h.2.2 (.inl rfl) 4 _⟩
theorem Mid.set_count {w W : World} {B g : Nat} {S : Nat → Prop} {d : Dc} (h : Mid w B g S d W) (x : Int) : Mid w B g S { d with count := x } (W.setCell ⟨g, 5, none⟩ (.int .i64 x)) :=
  ⟨h.1.set_count x, h.2.1.setCell (p := ⟨g, 5, none⟩) h.1.1 _, kept_set h.2.2 (.inl rfl) 5 _⟩
theorem Mid.set_lines {w W : World} {B g : Nat} {S : Nat → Prop} {d : Dc} (h : Mid w B g S d W) (x : Int) : Mid w B g S { d with lines := x } (W.setCell ⟨g, 6, none⟩ (.int .i64 x)) :=
  ⟨h.1.set_lines x, h.2.1.setCell (p := ⟨g, 6, none⟩) h.1.1 _, kept_set h.2.2 (.inl rfl) 6 _⟩
theorem Mid.set_size {w W : World} {B g : Nat} {S : Nat → Prop} {d : Dc} (h : Mid w B g S d W) (x : Int) : Mid w B g S { d with size := x } (W.setCell ⟨g, 7, none⟩ (.int .i64 x)) :=
  ⟨h.1.set_size x, h.2.1.setCell (p := ⟨g, 7, none⟩) h.1.1 _, kept_set h.2.2 (.inl rfl) 7 _⟩
theorem Mid.set_taken {w W : World} {B g : Nat} {S : Nat → Prop} {d : Dc} (h : Mid w B g S d W) (x : Int) : Mid w B g S { d with taken := x } (W.setCell ⟨g, 10, none⟩ (.int .i64 x)) :=
  ⟨h.1.set_taken x, h.2.1.setCell (p := ⟨g, 10, none⟩) h.1.1 _, kept_set h.2.2 (.inl rfl) 10 _⟩
theorem Mid.set_given {w W : World} {B g : Nat} {S : Nat → Prop} {d : Dc} (h : Mid w B g S d W) (x : Int) : Mid w B g S { d with given := x } (W.setCell ⟨g, 11, none⟩ (.int .i64 x)) :=
  ⟨h.1.set_given x, h.2.1.setCell (p := ⟨g, 11, none⟩) h.1.1 _, kept_set h.2.2 (.inl rfl) 11 _⟩
theorem Mid.set_e {w W : World} {B g : Nat} {S : Nat → Prop} {d : Dc} (h : Mid w B g S d W) (x : Int) : Mid w B g S { d with e := x } (W.setCell ⟨g, 12, none⟩ (.int .i64 x)) :=
  ⟨h.1.set_e x, h.2.1.setCell (p := ⟨g, 12, none⟩) h.1.1 _, kept_set h.2.2 (.inl rfl) 12 _⟩

/-- What the decoder's numbers keep. -/
structure DcOk (d : Dc) : Prop where
  ext0 : 0 ≤ d.ext
  ext1 : d.ext ≤ 65536
  flds0 : 0 ≤ d.flds
  flds1 : d.flds ≤ 65536
  byts0 : 0 ≤ d.byts
  byts1 : d.byts ≤ 65536
  n0 : 0 ≤ d.n
  n1 : d.n ≤ 4611686018427387903
  count0 : 0 ≤ d.count
  count1 : d.count ≤ 65536
  lines0 : 0 ≤ d.lines
  lines1 : d.lines ≤ 65536
  size0 : 0 ≤ d.size
  size1 : d.size ≤ 65536
  len : (d.line.length : Int) ≤ d.size
  flen : (d.fields.length : Int) ≤ d.lines

def dTo (d : Dc) (p : Int) (ok : Bool) : Dc × Int := if ok = true then ({ d with place := p }, 0) else (d, 2)
theorem to_calls {B g : Nat} {S : Nat → Prop} {d : Dc} {w : World} (h : DcAt w B g S d) (p : Int) (ok : Bool) :
    Calls Tryd.prog 99 #[.pointer (some ⟨g, 0, none⟩), .int .i64 p, .bool ok] w (MPost w B g S (dTo d p ok)) := by
  have M := Aside0.mk (Mid.start h)
  have c3 := h.get_place
  have f3 := h.frozen 3
  clear h
  cases ok with
  | false =>
    go_enter Tryd.func99, Tryd.ntmps99
    go_wp2
    go_ret
    exact ⟨rfl, M.out⟩
  | true =>
    go_enter Tryd.func99, Tryd.ntmps99
    go_wp2
    go_ret
    exact ⟨rfl, M.out.set_place p⟩

def dClosed (d : Dc) (c : Int) : Dc × Int := dTo d 5 (c == 13)
theorem closed_calls {B g : Nat} {S : Nat → Prop} {d : Dc} {w : World} (h : DcAt w B g S d) (c : Int) :
    Calls Tryd.prog 79 #[.pointer (some ⟨g, 0, none⟩), .int .u8 c] w (MPost w B g S (dClosed d c)) := by
  go_enter Tryd.func79, Tryd.ntmps79
  go_wp2_with (go_at_call 99; refine (to_calls h 5 (c == 13)).mono ?_; rintro e w' ⟨rfl, hm⟩)
  go_ret
  exact ⟨rfl, hm⟩

def dFinish (d : Dc) (c : Int) : Dc × Int := dTo d 11 (c == 10)
theorem finish_calls {B g : Nat} {S : Nat → Prop} {d : Dc} {w : World} (h : DcAt w B g S d) (c : Int) :
    Calls Tryd.prog 85 #[.pointer (some ⟨g, 0, none⟩), .int .u8 c] w (MPost w B g S (dFinish d c)) := by
  go_enter Tryd.func85, Tryd.ntmps85
  go_wp2_with (go_at_call 99; refine (to_calls h 11 (c == 10)).mono ?_; rintro e w' ⟨rfl, hm⟩)
  go_ret
  exact ⟨rfl, hm⟩

def dAgain (d : Dc) (c : Int) : Dc × Int := dTo { d with count := 0 } 0 (c == 10)
theorem again_calls {B g : Nat} {S : Nat → Prop} {d : Dc} {w : World} (h : DcAt w B g S d) (c : Int) :
    Calls Tryd.prog 80 #[.pointer (some ⟨g, 0, none⟩), .int .u8 c] w (MPost w B g S (dAgain d c)) := by
  have M := Aside0.mk ((Mid.start h).set_count 0)
  have c5 := h.get_count
  have f5 := h.frozen 5
  clear h
  go_enter Tryd.func80, Tryd.ntmps80
  go_wp2_with (go_at_call 99; refine (to_calls M.out.1 0 (c == 10)).mono ?_; rintro e w' ⟨rfl, hm⟩)
  go_ret
  exact ⟨rfl, M.out.then hm⟩
def dBegun (d : Dc) (c : Int) : Dc × Int := if d.n = 0 then dTo d 6 (c == 10) else dTo d 3 (c == 10)
theorem begun_calls {B g : Nat} {S : Nat → Prop} {d : Dc} {w : World} (h : DcAt w B g S d) (c : Int) :
    Calls Tryd.prog 77 #[.pointer (some ⟨g, 0, none⟩), .int .u8 c] w (MPost w B g S (dBegun d c)) := by
  by_cases hn : d.n = 0
  · have HP := Aside0.mk (show dBegun d c = dTo d 6 (c == 10) by unfold dBegun; rw [if_pos hn])
    rw [HP.out]
    clear HP
    have H := Aside0.mk h
    have c4 := h.get_n
    have n0 : (d.n == 0) = true := beq_iff_eq.mpr hn
    clear h hn
    go_enter Tryd.func77, Tryd.ntmps77
    go_wp2_with (go_at_call 99; refine (to_calls H.out 6 (c == 10)).mono ?_; rintro e w' ⟨rfl, hm⟩)
    go_ret
    exact ⟨rfl, hm⟩
  · have HP := Aside0.mk (show dBegun d c = dTo d 3 (c == 10) by unfold dBegun; rw [if_neg hn])
    rw [HP.out]
    clear HP
    have H := Aside0.mk h
    have c4 := h.get_n
    have n0 : (d.n == 0) = false := beq_eq_false_iff_ne.mpr hn
    clear h hn
    go_enter Tryd.func77, Tryd.ntmps77
    go_wp2_with (go_at_call 99; refine (to_calls H.out 3 (c == 10)).mono ?_; rintro e w' ⟨rfl, hm⟩)
    go_ret
    exact ⟨rfl, hm⟩

/-- The text of one byte. -/
def one (c : Int) : ByteArray := strOfNums [c]
theorem one_bytes (c : Int) (h0 : 0 ≤ c) (h1 : c ≤ 255) : bytesOf (one c) = [c] := by
  have : (UInt8.ofNat c.toNat).toNat = c.toNat := by
    rw [UInt8.toNat_ofNat']
    omega
  simp only [one, strOfNums, bytesOf, List.map_cons, List.map_nil]
  rw [this]
  congr 1
  omega
theorem one_size (c : Int) : (one c).size = 1 := rfl
theorem text_one (c : Int) (h0 : 0 ≤ c) (h1 : c ≤ 255) : textS (one c) = textB c := by simp [textS, one_bytes c h0 h1]
theorem token_one (c : Int) (h0 : 0 ≤ c) (h1 : c ≤ 255) : tokenS (one c) = tokenB c := by simp [tokenS, one_bytes c h0 h1, one_size]
theorem conv_one (w : World) (c : Int) : (convert 24 9 (.slice (some ⟨w.heap.size, 0, none⟩) 1 1)).run Tryd.prog (w.alloc (.cells #[.int .u8 c] 5)) = .ok (.string (one c)) (w.alloc (.cells #[.int .u8 c] 5)) :=
  run_convert_bytes_arg (w.alloc (.cells #[.int .u8 c] 5)) 24 5 Tryd.underlying24 Tryd.underlying5 w.heap.size 0 1 1 [c] rfl (fun i hi => by
    obtain rfl : i = 0 := by omega
    exact World.cell?_alloc_new w #[.int .u8 c] 5 0) 9 Tryd.underlying9

def dExt (d : Dc) (c : Int) : Dc × Int := if c = 13 then ({ d with place := 2 }, 0) else if textB c = false then (d, 2) else if d.count ≥ d.ext then (d, 5) else ({ d with count := d.count + 1 }, 0)
set_option maxRecDepth 100000 in
theorem ext_calls {B g : Nat} {S : Nat → Prop} {d : Dc} {w : World} (h : DcAt w B g S d) (hB : 2 ≤ B) (hv : Vars w) (hok : DcOk d) (c : Int) (h0 : 0 ≤ c) (h1 : c ≤ 255) :
    Calls Tryd.prog 76 #[.pointer (some ⟨g, 0, none⟩), .int .u8 c] w (MPost w B g S (dExt d c)) := by
  by_cases h13 : c = 13
  · have HP := Aside0.mk (show dExt d c = dTo d 2 true by unfold dExt; rw [if_pos h13]; rfl)
    rw [HP.out]
    subst h13
    go_enter Tryd.func76, Tryd.ntmps76
    go_wp2_with (go_at_call 99; refine (to_calls h 2 true).mono ?_; rintro e w' ⟨rfl, hm⟩)
    go_ret
    exact ⟨rfl, hm⟩
  · have b13 : (c == 13) = false := beq_eq_false_iff_ne.mpr h13
    have M1 := Aside0.mk ((Mid.start h).alloc (.cells #[.int .u8 c] 5))
    have V1 := Aside0.mk (M1.out.vars hv hB)
    have HT := Aside0.mk (text_one c h0 h1)
    have HO := Aside0.mk hok
    have HVB := Aside0.mk (And.intro hv hB)
    clear h hv hok hB
    cases ht : textB c with
    | false =>
      have HP := Aside0.mk (show dExt d c = (d, 2) by unfold dExt; rw [if_neg h13, if_pos ht])
      rw [HP.out]
      rw [ht] at HT
      clear ht h13
      clear HP h0 h1
      have hcv := conv_one w c
      go_enter Tryd.func76, Tryd.ntmps76
      go_wp2_with fail
      refine (text_calls (one c) _ V1.out.1 (by simp [one_size])).mono ?_
      rintro e w2 ⟨rfl, hb2⟩
      rw [HT.out]
      have M2 := Aside0.mk (M1.out.below hb2)
      have c5 := M2.out.1.get_count
      have c0 := M2.out.1.get_ext
      have f5 := M2.out.frozen 5
      clear hb2 hcv
      go_wp2_with fail
      go_ret
      exact ⟨rfl, M2.out⟩
    | true =>
      rw [ht] at HT
      by_cases hc : d.count ≥ d.ext
      · have b1 : decide (d.ext ≤ d.count) = true := decide_eq_true hc
        have HP := Aside0.mk (show dExt d c = (d, 5) by unfold dExt; rw [if_neg h13, if_neg (by rw [ht]; simp), if_pos hc])
        rw [HP.out]
        clear ht h13 hc
        clear HP h0 h1
        have hcv := conv_one w c
        go_enter Tryd.func76, Tryd.ntmps76
        go_wp2_with fail
        refine (text_calls (one c) _ V1.out.1 (by simp [one_size])).mono ?_
        rintro e w2 ⟨rfl, hb2⟩
        rw [HT.out]
        have M2 := Aside0.mk (M1.out.below hb2)
        have c5 := M2.out.1.get_count
        have c0 := M2.out.1.get_ext
        have f5 := M2.out.frozen 5
        clear hb2 hcv
        go_wp2_with fail
        repeat (go_quiet (fail); try go_wp2_with fail)
        go_ret
        exact ⟨rfl, M2.out.drawn _⟩
      · have b1 : decide (d.ext ≤ d.count) = false := decide_eq_false hc
        have e1 := HO.out.count0
        have e2 := HO.out.count1
        have HP := Aside0.mk (show dExt d c = ({ d with count := d.count + 1 }, 0) by unfold dExt; rw [if_neg h13, if_neg (by rw [ht]; simp), if_neg hc])
        rw [HP.out]
        clear ht h13 hc
        clear HP h0 h1
        have hcv := conv_one w c
        go_enter Tryd.func76, Tryd.ntmps76
        go_wp2_with fail
        refine (text_calls (one c) _ V1.out.1 (by simp [one_size])).mono ?_
        rintro e w2 ⟨rfl, hb2⟩
        rw [HT.out]
        have M2 := Aside0.mk (M1.out.below hb2)
        have c5 := M2.out.1.get_count
        have c0 := M2.out.1.get_ext
        have f5 := M2.out.frozen 5
        clear hb2 hcv
        go_wp2_with fail
        repeat (go_quiet (fail); try go_wp2_with fail)
        go_ret
        exact ⟨rfl, (M2.out.drawn _).set_count _⟩

def dDigit (d : Dc) (c : Int) : Dc × Int :=
  if digV c ≥ 0 then (if d.count = 16 ∨ (moreN d.n c).2 ≠ 0 then (d, 3) else ({ d with n := (moreN d.n c).1, count := d.count + 1 }, 0))
  else if d.count = 0 then (d, 2)
  else if c = 59 then
    (if (dExt { d with count := 0, place := 1 } c).2 ≠ 0 then ({ (dExt { d with count := 0, place := 1 } c).1 with count := 1, place := 0 }, (dExt { d with count := 0, place := 1 } c).2)
     else ((dExt { d with count := 0, place := 1 } c).1, 0))
  else dTo d 2 (c == 13)

theorem dExt_ok {d : Dc} (h : DcOk d) (c : Int) : DcOk (dExt d c).1 := by
  obtain ⟨a1, a2, a3, a4, a5, a6, a7, a8, a9, a10, a11, a12, a13, a14, a15, a16⟩ := h
  unfold dExt
  split
  · exact ⟨a1, a2, a3, a4, a5, a6, a7, a8, a9, a10, a11, a12, a13, a14, a15, a16⟩
  · split
    · exact ⟨a1, a2, a3, a4, a5, a6, a7, a8, a9, a10, a11, a12, a13, a14, a15, a16⟩
    · split
      · exact ⟨a1, a2, a3, a4, a5, a6, a7, a8, a9, a10, a11, a12, a13, a14, a15, a16⟩
      · exact ⟨a1, a2, a3, a4, a5, a6, a7, a8, by show 0 ≤ d.count + 1; omega, by show d.count + 1 ≤ 65536; omega, a11, a12, a13, a14, a15, a16⟩

set_option maxHeartbeats 1000000 in
set_option maxRecDepth 100000 in
theorem digit_a1 {B g : Nat} {S : Nat → Prop} {d : Dc} {w : World} (h : DcAt w B g S d) (hB : 2 ≤ B) (hv : Vars w) (hok : DcOk d) (c : Int) (h0 : 0 ≤ c) (h1 : c ≤ 255) (hd : digV c ≥ 0) (hc : d.count = 16) :
    Calls Tryd.prog 75 #[.pointer (some ⟨g, 0, none⟩), .int .u8 c] w (MPost w B g S (dDigit d c)) := by
  have HP := Aside0.mk (show dDigit d c = (d, 3) by unfold dDigit; rw [if_pos hd, if_pos (.inl hc)])
  rw [HP.out]
  have HM := Aside0.mk (more_f d.n c hok.n0 hok.n1)
  have M := Aside0.mk (Mid.start h)
  have HO := Aside0.mk hok
  have c4 := h.get_n
  have c5 := h.get_count
  have c3 := h.get_place
  have f3 := h.frozen 3
  have f4 := h.frozen 4
  have f5 := h.frozen 5
  have HVB := Aside0.mk (And.intro hv hB)
  clear h hv hok hB
  have b0 : decide (0 ≤ digV c) = true := decide_eq_true hd
  have b1 : (d.count == 16) = true := beq_iff_eq.mpr hc
  clear hd hc HP h0 h1
  obtain ⟨m, e, hme⟩ : ∃ m e, moreN d.n c = (m, e) := ⟨_, _, rfl⟩
  rw [hme] at HM 
  clear hme
  go_enter Tryd.func75, Tryd.ntmps75
  go_wp2_with (first | (go_at_call 97; refine (hexa_Digit.calls 1 c _ _ (digV_f c)).mono ?_; rintro e w1 ⟨rfl, ⟨nd, rfl⟩⟩) | (go_at_call 98; refine (hexa_More.calls 1 d.n c _ _ _ HM.out).mono ?_; rintro e w2 ⟨rfl, ⟨n2, rfl⟩⟩))
  repeat (go_quiet (fail); try go_wp2_with fail)
  go_ret
  exact ⟨rfl, M.out.drawn _⟩

set_option maxHeartbeats 1000000 in
set_option maxRecDepth 100000 in
theorem digit_a2 {B g : Nat} {S : Nat → Prop} {d : Dc} {w : World} (h : DcAt w B g S d) (hB : 2 ≤ B) (hv : Vars w) (hok : DcOk d) (c : Int) (h0 : 0 ≤ c) (h1 : c ≤ 255) (hd : digV c ≥ 0) (hc : d.count ≠ 16) (he : (moreN d.n c).2 ≠ 0) :
    Calls Tryd.prog 75 #[.pointer (some ⟨g, 0, none⟩), .int .u8 c] w (MPost w B g S (dDigit d c)) := by
  have HP := Aside0.mk (show dDigit d c = (d, 3) by unfold dDigit; rw [if_pos hd, if_pos (.inr he)])
  rw [HP.out]
  have HM := Aside0.mk (more_f d.n c hok.n0 hok.n1)
  have M := Aside0.mk (Mid.start h)
  have HO := Aside0.mk hok
  have c4 := h.get_n
  have c5 := h.get_count
  have c3 := h.get_place
  have f3 := h.frozen 3
  have f4 := h.frozen 4
  have f5 := h.frozen 5
  have HVB := Aside0.mk (And.intro hv hB)
  clear h hv hok hB
  have b0 : decide (0 ≤ digV c) = true := decide_eq_true hd
  have b1 : (d.count == 16) = false := beq_eq_false_iff_ne.mpr hc
  clear HP h0 h1 hd hc
  obtain ⟨m, e, hme⟩ : ∃ m e, moreN d.n c = (m, e) := ⟨_, _, rfl⟩
  rw [hme] at HM he
  clear hme
  have b2 : (e == 0) = false := beq_eq_false_iff_ne.mpr he
  have b3 : (e != 0) = true := bne_iff_ne.mpr he
  clear he
  go_enter Tryd.func75, Tryd.ntmps75
  go_wp2_with (first | (go_at_call 97; refine (hexa_Digit.calls 1 c _ _ (digV_f c)).mono ?_; rintro e w1 ⟨rfl, ⟨nd, rfl⟩⟩) | (go_at_call 98; refine (hexa_More.calls 1 d.n c _ _ _ HM.out).mono ?_; rintro e w2 ⟨rfl, ⟨n2, rfl⟩⟩))
  repeat (go_quiet (fail); try go_wp2_with fail)
  go_ret
  exact ⟨rfl, M.out.drawn _⟩

set_option maxHeartbeats 1000000 in
set_option maxRecDepth 100000 in
theorem digit_a3 {B g : Nat} {S : Nat → Prop} {d : Dc} {w : World} (h : DcAt w B g S d) (hB : 2 ≤ B) (hv : Vars w) (hok : DcOk d) (c : Int) (h0 : 0 ≤ c) (h1 : c ≤ 255) (hd : digV c ≥ 0) (hc : d.count ≠ 16) (he : (moreN d.n c).2 = 0) :
    Calls Tryd.prog 75 #[.pointer (some ⟨g, 0, none⟩), .int .u8 c] w (MPost w B g S (dDigit d c)) := by
  have HP := Aside0.mk (show dDigit d c = ({ d with n := (moreN d.n c).1, count := d.count + 1 }, 0) by unfold dDigit; rw [if_pos hd, if_neg (by rintro (h | h) <;> contradiction)])
  rw [HP.out]
  have HM := Aside0.mk (more_f d.n c hok.n0 hok.n1)
  have M := Aside0.mk (Mid.start h)
  have HO := Aside0.mk hok
  have c4 := h.get_n
  have c5 := h.get_count
  have c3 := h.get_place
  have f3 := h.frozen 3
  have f4 := h.frozen 4
  have f5 := h.frozen 5
  have HVB := Aside0.mk (And.intro hv hB)
  clear h hv hok hB
  have b0 : decide (0 ≤ digV c) = true := decide_eq_true hd
  have b1 : (d.count == 16) = false := beq_eq_false_iff_ne.mpr hc
  have e1 := HO.out.count0
  have e2 := HO.out.count1
  clear HP h0 h1 hd hc
  obtain ⟨m, e, hme⟩ : ∃ m e, moreN d.n c = (m, e) := ⟨_, _, rfl⟩
  rw [hme] at HM he ⊢
  clear hme
  obtain rfl : e = 0 := he
  go_enter Tryd.func75, Tryd.ntmps75
  go_wp2_with (first | (go_at_call 97; refine (hexa_Digit.calls 1 c _ _ (digV_f c)).mono ?_; rintro e w1 ⟨rfl, ⟨nd, rfl⟩⟩) | (go_at_call 98; refine (hexa_More.calls 1 d.n c _ _ _ HM.out).mono ?_; rintro e w2 ⟨rfl, ⟨n2, rfl⟩⟩))
  repeat (go_quiet (fail); try go_wp2_with fail)
  go_ret
  exact ⟨rfl, ((M.out.drawn _).set_n _).set_count _⟩

set_option maxHeartbeats 1000000 in
set_option maxRecDepth 100000 in
theorem digit_b1 {B g : Nat} {S : Nat → Prop} {d : Dc} {w : World} (h : DcAt w B g S d) (hB : 2 ≤ B) (hv : Vars w) (hok : DcOk d) (c : Int) (h0 : 0 ≤ c) (h1 : c ≤ 255) (hd : ¬ digV c ≥ 0) (hc : d.count = 0) :
    Calls Tryd.prog 75 #[.pointer (some ⟨g, 0, none⟩), .int .u8 c] w (MPost w B g S (dDigit d c)) := by
  have HP := Aside0.mk (show dDigit d c = (d, 2) by unfold dDigit; rw [if_neg hd, if_pos hc])
  rw [HP.out]
  have HM := Aside0.mk (more_f d.n c hok.n0 hok.n1)
  have M := Aside0.mk (Mid.start h)
  have HO := Aside0.mk hok
  have c4 := h.get_n
  have c5 := h.get_count
  have c3 := h.get_place
  have f3 := h.frozen 3
  have f4 := h.frozen 4
  have f5 := h.frozen 5
  have HVB := Aside0.mk (And.intro hv hB)
  clear h hv hok hB
  have b0 : decide (0 ≤ digV c) = false := decide_eq_false hd
  have b1 : (d.count == 0) = true := beq_iff_eq.mpr hc
  clear HP h0 h1 hd hc HM
  go_enter Tryd.func75, Tryd.ntmps75
  go_wp2_with (first | (go_at_call 97; refine (hexa_Digit.calls 1 c _ _ (digV_f c)).mono ?_; rintro e w1 ⟨rfl, ⟨nd, rfl⟩⟩))
  repeat (go_quiet (fail); try go_wp2_with fail)
  go_ret
  exact ⟨rfl, M.out.drawn _⟩

set_option maxHeartbeats 1000000 in
set_option maxRecDepth 100000 in
theorem digit_b3 {B g : Nat} {S : Nat → Prop} {d : Dc} {w : World} (h : DcAt w B g S d) (hB : 2 ≤ B) (hv : Vars w) (hok : DcOk d) (c : Int) (h0 : 0 ≤ c) (h1 : c ≤ 255) (hd : ¬ digV c ≥ 0) (hc : d.count ≠ 0) (he : c ≠ 59) :
    Calls Tryd.prog 75 #[.pointer (some ⟨g, 0, none⟩), .int .u8 c] w (MPost w B g S (dDigit d c)) := by
  have HP := Aside0.mk (show dDigit d c = dTo d 2 (c == 13) by unfold dDigit; rw [if_neg hd, if_neg hc, if_neg he])
  rw [HP.out]
  have HM := Aside0.mk (more_f d.n c hok.n0 hok.n1)
  have M := Aside0.mk (Mid.start h)
  have HO := Aside0.mk hok
  have c4 := h.get_n
  have c5 := h.get_count
  have c3 := h.get_place
  have f3 := h.frozen 3
  have f4 := h.frozen 4
  have f5 := h.frozen 5
  have HVB := Aside0.mk (And.intro hv hB)
  clear h hv hok hB
  have b0 : decide (0 ≤ digV c) = false := decide_eq_false hd
  have b1 : (d.count == 0) = false := beq_eq_false_iff_ne.mpr hc
  have b2 : (c == 59) = false := beq_eq_false_iff_ne.mpr he
  clear HP h0 h1 hd hc he HM
  go_enter Tryd.func75, Tryd.ntmps75
  go_wp2_with (first | (go_at_call 97; refine (hexa_Digit.calls 1 c _ _ (digV_f c)).mono ?_; rintro e w1 ⟨rfl, ⟨nd, rfl⟩⟩) | (go_at_call 99; refine (to_calls (M.out.drawn _).1 2 (c == 13)).mono ?_; rintro e w' ⟨rfl, hm⟩))
  repeat (go_quiet (fail); try go_wp2_with fail)
  go_ret
  exact ⟨rfl, (M.out.drawn _).then hm⟩

set_option maxHeartbeats 1000000 in
set_option maxRecDepth 100000 in
theorem digit_b2x {B g : Nat} {S : Nat → Prop} {d : Dc} {w : World} (h : DcAt w B g S d) (hB : 2 ≤ B) (hv : Vars w) (hok : DcOk d) (hd : ¬ digV 59 ≥ 0) (hc : d.count ≠ 0) (he : (dExt { d with count := 0, place := 1 } 59).2 ≠ 0) :
    Calls Tryd.prog 75 #[.pointer (some ⟨g, 0, none⟩), .int .u8 59] w (MPost w B g S (dDigit d 59)) := by
  have HP := Aside0.mk (show dDigit d 59 = ({ (dExt { d with count := 0, place := 1 } 59).1 with count := 1, place := 0 }, (dExt { d with count := 0, place := 1 } 59).2) by unfold dDigit; rw [if_neg hd, if_neg hc, if_pos rfl, if_pos he])
  rw [HP.out]
  have HO2 : Aside0 (DcOk { d with count := 0, place := 1 }) := ⟨{ hok with count0 := Int.le_refl 0, count1 := by show (0 : Int) ≤ 65536; omega }⟩
  have M := Aside0.mk (Mid.start h)
  have HO := Aside0.mk hok
  have c4 := h.get_n
  have c5 := h.get_count
  have c3 := h.get_place
  have f3 := h.frozen 3
  have f4 := h.frozen 4
  have f5 := h.frozen 5
  have HVB := Aside0.mk (And.intro hv hB)
  clear h hv hok hB
  have b0 : decide (0 ≤ digV 59) = false := decide_eq_false hd
  have b1 : (d.count == 0) = false := beq_eq_false_iff_ne.mpr hc
  have b3 : ((dExt { d with count := 0, place := 1 } 59).2 != 0) = true := bne_iff_ne.mpr he
  clear HP hd hc he
  go_enter Tryd.func75, Tryd.ntmps75
  go_wp2_with (go_at_call 97; refine (hexa_Digit.calls 1 59 _ _ (digV_f 59)).mono ?_; rintro e w1 ⟨rfl, ⟨nd, rfl⟩⟩; have M2 := Aside0.mk (((M.out.drawn nd).set_count 0).set_place 1); clear M)
  refine (ext_calls M2.out.1 HVB.out.2 (M2.out.vars HVB.out.1 HVB.out.2) HO2.out 59 (by omega) (by omega)).mono ?_
  rintro e w2 ⟨rfl, hm⟩
  have M3 := Aside0.mk (M2.out.then hm)
  have k5 := M3.out.1.get_count
  have k3 := M3.out.1.get_place
  have l3 := M3.out.frozen 3
  have l5 := M3.out.frozen 5
  clear hm M2
  generalize (dExt { d with count := 0, place := 1 } 59).2 = r2 at *
  generalize (dExt { d with count := 0, place := 1 } 59).1 = d2 at *
  go_wp2_with fail
  go_ret
  exact ⟨rfl, (M3.out.set_count 1).set_place 0⟩

set_option maxHeartbeats 1000000 in
set_option maxRecDepth 100000 in
theorem digit_b2y {B g : Nat} {S : Nat → Prop} {d : Dc} {w : World} (h : DcAt w B g S d) (hB : 2 ≤ B) (hv : Vars w) (hok : DcOk d) (hd : ¬ digV 59 ≥ 0) (hc : d.count ≠ 0) (he : (dExt { d with count := 0, place := 1 } 59).2 = 0) :
    Calls Tryd.prog 75 #[.pointer (some ⟨g, 0, none⟩), .int .u8 59] w (MPost w B g S (dDigit d 59)) := by
  have HP := Aside0.mk (show dDigit d 59 = ((dExt { d with count := 0, place := 1 } 59).1, 0) by unfold dDigit; rw [if_neg hd, if_neg hc, if_pos rfl, if_neg (by rw [he]; simp)])
  rw [HP.out]
  have HO2 : Aside0 (DcOk { d with count := 0, place := 1 }) := ⟨{ hok with count0 := Int.le_refl 0, count1 := by show (0 : Int) ≤ 65536; omega }⟩
  have M := Aside0.mk (Mid.start h)
  have HO := Aside0.mk hok
  have c4 := h.get_n
  have c5 := h.get_count
  have c3 := h.get_place
  have f3 := h.frozen 3
  have f4 := h.frozen 4
  have f5 := h.frozen 5
  have HVB := Aside0.mk (And.intro hv hB)
  clear h hv hok hB
  have b0 : decide (0 ≤ digV 59) = false := decide_eq_false hd
  have b1 : (d.count == 0) = false := beq_eq_false_iff_ne.mpr hc
  have b3 : ((dExt { d with count := 0, place := 1 } 59).2 != 0) = false := bne_eq_false_iff_eq.mpr he
  clear HP hd hc he
  go_enter Tryd.func75, Tryd.ntmps75
  go_wp2_with (go_at_call 97; refine (hexa_Digit.calls 1 59 _ _ (digV_f 59)).mono ?_; rintro e w1 ⟨rfl, ⟨nd, rfl⟩⟩; have M2 := Aside0.mk (((M.out.drawn nd).set_count 0).set_place 1); clear M)
  refine (ext_calls M2.out.1 HVB.out.2 (M2.out.vars HVB.out.1 HVB.out.2) HO2.out 59 (by omega) (by omega)).mono ?_
  rintro e w2 ⟨rfl, hm⟩
  have M3 := Aside0.mk (M2.out.then hm)
  have k5 := M3.out.1.get_count
  have k3 := M3.out.1.get_place
  have l3 := M3.out.frozen 3
  have l5 := M3.out.frozen 5
  clear hm M2
  generalize (dExt { d with count := 0, place := 1 } 59).2 = r2 at *
  generalize (dExt { d with count := 0, place := 1 } 59).1 = d2 at *
  go_wp2_with fail
  go_ret
  exact ⟨rfl, M3.out⟩

theorem digit_calls {B g : Nat} {S : Nat → Prop} {d : Dc} {w : World} (h : DcAt w B g S d) (hB : 2 ≤ B) (hv : Vars w) (hok : DcOk d) (c : Int) (h0 : 0 ≤ c) (h1 : c ≤ 255) :
    Calls Tryd.prog 75 #[.pointer (some ⟨g, 0, none⟩), .int .u8 c] w (MPost w B g S (dDigit d c)) := by
  by_cases hd : digV c ≥ 0
  · by_cases hc : d.count = 16
    · exact digit_a1 h hB hv hok c h0 h1 hd hc
    · by_cases he : (moreN d.n c).2 = 0
      · exact digit_a3 h hB hv hok c h0 h1 hd hc he
      · exact digit_a2 h hB hv hok c h0 h1 hd hc he
  · by_cases hc : d.count = 0
    · exact digit_b1 h hB hv hok c h0 h1 hd hc
    · by_cases he : c = 59
      · subst he
        by_cases hx : (dExt { d with count := 0, place := 1 } 59).2 = 0
        · exact digit_b2y h hB hv hok hd hc hx
        · exact digit_b2x h hB hv hok hd hc hx
      · exact digit_b3 h hB hv hok c h0 h1 hd hc he
end Go.Proofs.YtebjfgkgfgbndaaDoor

namespace Go.Proofs.YtebjfgkgfgbndaaDoor
open Go.RowKit Go.Proofs.YtebjfgkgfgbndaaDoorW.PrintWords Go.Proofs.YtebjfgkgfgbndaaDoorW.PrintLast Go.Proofs.YtebjfgkgfgbndaaDoorW.PrintMore
open PBodyScans
set_option linter.unusedVariables false
set_option linter.unusedSimpArgs false

/-- A decoder with its rows' own values told. -/
def DcRaw (w : World) (B g : Nat) (S : Nat → Prop) (d : Dc) (vl vf : Value) : Prop :=
  B ≤ g ∧ w.heap[g]? = some (.cells (dcCells d vl vf) 100 (0, 0)) ∧ Kd.R (Kd.int .u8) 5 w B S vl d.line ∧ Kd.R k53 53 w B S vf d.fields
theorem DcRaw.at {w : World} {B g : Nat} {S : Nat → Prop} {d : Dc} {vl vf : Value} (h : DcRaw w B g S d vl vf) : DcAt w B g S d := ⟨h.1, vl, vf, h.2⟩
theorem DcAt.raw {w : World} {B g : Nat} {S : Nat → Prop} {d : Dc} (h : DcAt w B g S d) : ∃ vl vf, DcRaw w B g S d vl vf := by
  obtain ⟨h0, vl, vf, h⟩ := h
  exact ⟨vl, vf, h0, h⟩
theorem DcRaw.get_line {w : World} {B g : Nat} {S : Nat → Prop} {d : Dc} {vl vf : Value} (h : DcRaw w B g S d vl vf) : w.cell? ⟨g, 8, none⟩ = some vl := by simp [World.cell?, h.2.1, dcCells]
theorem DcRaw.get_fields {w : World} {B g : Nat} {S : Nat → Prop} {d : Dc} {vl vf : Value} (h : DcRaw w B g S d vl vf) : w.cell? ⟨g, 9, none⟩ = some vf := by simp [World.cell?, h.2.1, dcCells]
theorem DcRaw.mono {w : World} {B g : Nat} {S S' : Nat → Prop} {d : Dc} {vl vf : Value} (h : DcRaw w B g S d vl vf) (hs : ∀ k, S k → S' k) : DcRaw w B g S' d vl vf := ⟨h.1, h.2.1, Kd.R_mono h.2.2.1 hs, Kd.R_mono h.2.2.2 hs⟩
theorem DcRaw.below {w w1 : World} {B g : Nat} {S : Nat → Prop} {d : Dc} {vl vf : Value} (h : DcRaw w B g S d vl vf) (hb : Below w.heap.size w w1) : DcRaw w1 B g S d vl vf :=
  ⟨h.1, (hb.block g (Array.getElem?_eq_some_iff.1 h.2.1).1).trans h.2.1, Kd.R_below h.2.2.1 hb, Kd.R_below h.2.2.2 hb⟩
theorem DcRaw.drawn {w : World} {B g : Nat} {S : Nat → Prop} {d : Dc} {vl vf : Value} (h : DcRaw w B g S d vl vf) (n : Nat) : DcRaw (w.drewN n) B g S d vl vf := h.below (Drawn0.below ⟨n, rfl⟩)
theorem DcRaw.setc {w : World} {B g : Nat} {S : Nat → Prop} {d d' : Dc} {vl vf : Value} (h : DcRaw w B g S d vl vf) (j : Nat) (v : Value) (hl : d'.line = d.line) (hf : d'.fields = d.fields)
    (hv : (dcCells d vl vf).setIfInBounds j v = dcCells d' vl vf) : DcRaw (w.setCell ⟨g, j, none⟩ v) B g S d' vl vf := by
  obtain ⟨h0, h1, h2, h3⟩ := h
  refine ⟨h0, ?_, ?_, ?_⟩
  · show (w.heap.modify g _)[g]? = _
    obtain ⟨hlt, he⟩ := Array.getElem?_eq_some_iff.1 h1
    rw [Array.getElem?_eq_getElem (by rw [Array.size_modify]; exact hlt), Array.getElem_modify_self, he]
    simp only [Option.isSome_none, Bool.false_eq_true, if_false, hv]
  · rw [hl]; exact Kd.R_set h2 h1 (by simp [Kd.int, Kd.scalar]) j v
  · rw [hf]; exact Kd.R_set h3 h1 (by simp [k53, Kd.iso, Kd.pair, Kd.string, Kd.scalar]) j v
/-- The line has grown by an append, and is laid back. -/
theorem Mid.appended {w W w1 : World} {B g : Nat} {S : Nat → Prop} {d : Dc} (M : Mid w B g S d W) {vl vf v1 : Value} {l' : List Int} (hraw : DcRaw W B g (fun k => S k ∨ w.heap.size ≤ k) d vl vf)
    (hR : Kd.R (Kd.int .u8) 5 w1 B (fun k => S k ∨ w.heap.size ≤ k) v1 l') (hB : Below B w w1) (hgr : W.grownBy w1 vl.ownBlock) : Mid w B g S { d with line := l' } (w1.setCell ⟨g, 8, none⟩ v1) := by
  obtain ⟨_, hg, hl, hf⟩ := hraw
  have hlt : g < W.heap.size := (Array.getElem?_eq_some_iff.1 hg).1
  have hne : some g ≠ vl.ownBlock := Kd.R_ne hl hg (by decide)
  have hg1 : w1.heap[g]? = some (.cells (dcCells d vl vf) 100 (0, 0)) := (hgr.block g hlt hne).trans hg
  have hlt1 : g < w1.heap.size := (Array.getElem?_eq_some_iff.1 hg1).1
  have hf1 : Kd.R k53 53 w1 B (fun k => S k ∨ w.heap.size ≤ k) vf d.fields := by
    refine Kd.R_mono (Kd.R_grown (Kd.R_bound hf) hgr (fun k hk e => ?_)) (fun _ hk => hk.1)
    obtain ⟨_, _, _, q, hq, cells, hc⟩ := hk
    obtain ⟨inner, ho⟩ := Kd.R_own hl
    obtain ⟨cells', hc'⟩ := own_typed ho k e.symm
    rw [hc] at hc'
    injection hc' with hc'
    injection hc' with _ ht
    have hq' : q = 53 := by simpa [k53, Kd.iso, Kd.pair, Kd.string, Kd.scalar] using hq
    exact absurd (hq'.symm.trans ht) (by decide)
  have hset : (w1.setCell ⟨g, 8, none⟩ v1).heap[g]? = some (.cells (dcCells { d with line := l' } v1 vf) 100 (0, 0)) := by
    show (w1.heap.modify g _)[g]? = _
    rw [Array.getElem?_eq_getElem (by rw [Array.size_modify]; exact hlt1), Array.getElem_modify_self]
    obtain ⟨_, he⟩ := Array.getElem?_eq_some_iff.1 hg1
    rw [he]
    rfl
  refine ⟨⟨M.1.1, v1, vf, hset, Kd.R_set hR hg1 (by simp [Kd.int, Kd.scalar]) 8 v1, Kd.R_set hf1 hg1 (by simp [k53, Kd.iso, Kd.pair, Kd.string, Kd.scalar]) 8 v1⟩, hB.setCell (p := ⟨g, 8, none⟩) M.1.1 _, ?_⟩
  refine kept_set ⟨Nat.le_trans M.2.2.1 hgr.size, fun i hi hs => ?_⟩ (.inl rfl) 8 _
  refine (hgr.block i (Nat.lt_of_lt_of_le hi M.2.2.1) (fun e => ?_)).trans (M.2.2.2 i hi hs)
  exact (hl.1 i e.symm).elim (fun h => hs (.inr h)) (fun h => by omega)

section
variable {P : Program} {ops : Array Oper} {rest : List Oper} {o : Oper} {a : Act} {Q : Exit → Act → World → Prop} {α : Type}
/-- append(v, x), the box's place told. -/
theorem R_append_at (d : Kd α) {w0 W : World} (base : Nat) (hgd : o.guard = none) (s x : Operand) (t e : TypeId) (z : Value) (bytes : Nat)
    (ho : o.op = .call { callee := .builtin .append, args := #[s, x], argTypes := #[t, t] })
    (ht : P.underlying t = some (.slice e)) (hinfo : (P.info? e).map (fun i => (i.zero, i.size, i.bytes)) = some (some z, d.sz, bytes)) (hz : z.cells.size = d.sz) (hs0 : 0 < d.sz) (hb0 : 0 < bytes)
    (v : Value) (xs : List α) (p : α) (cs : List Value) (ok okp : Nat → Prop) (H : Nat) (hs : a.eval s = v) (hx : a.eval x = .slice (some ⟨H, 0, none⟩) 1 1) (hH : W.heap.size = H) (hp : d.M W base okp p cs) (hokp : ∀ k, okp k → ok k ∧ some k ≠ v.ownBlock) (hfresh : ∀ k, W.heap.size ≤ k → ok k)
    (HO : d.R e W base ok v xs) (HB : Below base w0 W) (hbase : base ≤ W.heap.size) (hl : (xs.length + 1) * bytes ≤ 140737488355328)
    (h : ∀ v1 w1, d.R e w1 base ok v1 (xs ++ [p]) → Below base w0 w1 → W.grownBy w1 v.ownBlock → (v1.ownBlock = v.ownBlock ∨ ∃ b, v1.ownBlock = some b ∧ W.heap.size ≤ b) → wpList P ops Q rest (a.put o.dst v1) w1) :
    wpList P ops Q (o :: rest) a (W.alloc (.cells cs.toArray e)) := by
  subst hH
  exact Kd.R_append d base hgd s x t e z bytes ho ht hinfo hz hs0 hb0 v xs p cs ok okp hs hx hp hokp hfresh HO HB hbase hl h
end

theorem DcRaw.grown {w w1 : World} {B g : Nat} {S : Nat → Prop} {d : Dc} {vl vf : Value} (h : DcRaw w B g S d vl vf) (hgr : w.grownBy w1 vl.ownBlock) :
    w1.heap[g]? = some (.cells (dcCells d vl vf) 100 (0, 0)) := (hgr.block g (Array.getElem?_eq_some_iff.1 h.2.1).1 (Kd.R_ne h.2.2.1 h.2.1 (by decide))).trans h.2.1
theorem R_form {α : Type} {d : Kd α} {e : Nat} {w : World} {base : Nat} {ok : Nat → Prop} {v : Value} {xs : List α} (h : d.R e w base ok v xs) : ∃ A n c, v = .slice A n c := by
  obtain ⟨A, c, he⟩ := Kd.R_slice h
  exact ⟨A, _, c, he⟩

def dMore (d : Dc) (c p : Int) : Dc × Int := if d.size ≥ d.byts then (d, 5) else ({ d with size := d.size + 1, line := d.line ++ [c], place := p }, 0)

set_option maxRecDepth 100000 in
theorem more_no {B g : Nat} {S : Nat → Prop} {d : Dc} {w : World} (h : DcAt w B g S d) (c p : Int) (hs : d.size ≥ d.byts) :
    Calls Tryd.prog 102 #[.pointer (some ⟨g, 0, none⟩), .int .u8 c, .int .i64 p] w (MPost w B g S (d, 5)) := by
  have M := Aside0.mk (Mid.start h)
  have c7 := h.get_size
  have c2 := h.get_byts
  have b : decide (d.byts ≤ d.size) = true := decide_eq_true hs
  clear h hs
  go_enter Tryd.func102, Tryd.ntmps102
  go_wp2_with fail
  repeat (go_quiet (fail); try go_wp2_with fail)
  go_ret
  exact ⟨rfl, M.out.drawn _⟩

set_option maxHeartbeats 1000000 in
set_option maxRecDepth 100000 in
theorem more_yes {B g : Nat} {S : Nat → Prop} {d : Dc} {w : World} (h : DcAt w B g S d) (hok : DcOk d) (c p : Int) (hs : ¬ d.size ≥ d.byts) :
    Calls Tryd.prog 102 #[.pointer (some ⟨g, 0, none⟩), .int .u8 c, .int .i64 p] w (MPost w B g S ({ d with size := d.size + 1, line := d.line ++ [c], place := p }, 0)) := by
  obtain ⟨vl, vf, hraw⟩ := h.raw
  have M := Aside0.mk (Mid.start h)
  have R := Aside0.mk (hraw.mono (S' := fun k => S k ∨ w.heap.size ≤ k) fun _ hs => .inl hs)
  have c7 := h.get_size
  have c2 := h.get_byts
  have c8 := hraw.get_line
  have f7 := h.frozen 7
  have b : decide (d.byts ≤ d.size) = false := decide_eq_false hs
  have e0 := hok.size0
  have e1 := hok.size1
  have HL := Aside0.mk hok.len
  have HB := Aside0.mk hok.byts1
  clear h hs hok hraw
  go_enter Tryd.func102, Tryd.ntmps102
  go_wp2_with fail
  go_quiet (fail)
  have M1 := Aside0.mk ((M.out.drawn nq).set_size (d.size + 1))
  have HSZ : Aside0 (((w.drewN nq).setCell ⟨g, 7, none⟩ (.int .i64 (d.size + 1))).heap.size = w.heap.size) := ⟨by simp⟩
  have HLL : Aside0 ((d.line.length + 1) * 1 ≤ 140737488355328) := ⟨by have := HL.out; omega⟩
  have R1 := Aside0.mk ((R.out.drawn nq).setc (d' := { d with size := d.size + 1 }) 7 (.int .i64 (d.size + 1)) rfl rfl rfl)
  go_wp2_with ((with_reducible refine gate_builtin (b := .append) (xs := #[.tmp 28, .tmp 30]) rfl ?_); at_builtin; (refine R_append_at (Kd.int .u8) (w0 := w) B rfl (.tmp 28) (.tmp 30) 24 5 (.int .u8 0) 1 rfl Tryd.underlying24 info5 rfl (by decide) (by decide) vl d.line c [.int .u8 c] (fun k => S k ∨ w.heap.size ≤ k) (fun _ => False) w.heap.size rfl rfl HSZ.out rfl (fun _ h => h.elim) (fun k hk => .inr (Nat.le_trans M1.out.2.2.1 hk)) R1.out.2.2.1 M1.out.2.1 M1.out.le HLL.out ?_); intro v1 w1 hR1 hB1 hg1 hat1; obtain ⟨A1, n1, k1, rfl⟩ := R_form hR1; have M2 := Aside0.mk (M1.out.appended R1.out hR1 hB1 hg1); have hb1 := R1.out.grown hg1; have q8 : w1.cell? ⟨g, 8, none⟩ = some vl := (by simp [World.cell?, hb1, dcCells]); have q3 : w1.cell? ⟨g, 3, none⟩ = some (.int .i64 d.place) := (by simp [World.cell?, hb1, dcCells]); have p8 : w1.frozen? ⟨g, 8, none⟩ = false := (by simp [World.frozen?, hb1]); have p3 : w1.frozen? ⟨g, 3, none⟩ = false := (by simp [World.frozen?, hb1]); clear hR1 hB1 hg1 hat1 hb1 R1 M1)
  go_ret
  exact ⟨rfl, M2.out.set_place p⟩
end Go.Proofs.YtebjfgkgfgbndaaDoor

namespace Go.Proofs.YtebjfgkgfgbndaaDoor
open Go.RowKit Go.Proofs.YtebjfgkgfgbndaaDoorW.PrintWords Go.Proofs.YtebjfgkgfgbndaaDoorW.PrintLast Go.Proofs.YtebjfgkgfgbndaaDoorW.PrintMore
open PBodyScans
set_option linter.unusedVariables false
set_option linter.unusedSimpArgs false

theorem more_calls {B g : Nat} {S : Nat → Prop} {d : Dc} {w : World} (h : DcAt w B g S d) (hok : DcOk d) (c p : Int) :
    Calls Tryd.prog 102 #[.pointer (some ⟨g, 0, none⟩), .int .u8 c, .int .i64 p] w (MPost w B g S (dMore d c p)) := by
  unfold dMore
  split
  · exact more_no h c p (by assumption)
  · exact more_yes h hok c p (by assumption)
theorem dMore_lines (d : Dc) (c p : Int) : (dMore d c p).1.lines = d.lines := by unfold dMore; split <;> rfl

def dNamed (d : Dc) (c : Int) : Dc × Int := if c = 58 then dMore d c 8 else if tokenB c = false then (d, 2) else dMore d c 7
set_option maxRecDepth 100000 in
theorem named_calls {B g : Nat} {S : Nat → Prop} {d : Dc} {w : World} (h : DcAt w B g S d) (hB : 2 ≤ B) (hv : Vars w) (hok : DcOk d) (c : Int) (h0 : 0 ≤ c) (h1 : c ≤ 255) :
    Calls Tryd.prog 82 #[.pointer (some ⟨g, 0, none⟩), .int .u8 c] w (MPost w B g S (dNamed d c)) := by
  by_cases hb : c = 58
  · have HP := Aside0.mk (show dNamed d c = dMore d c 8 by unfold dNamed; rw [if_pos hb])
    rw [HP.out]
    subst hb
    go_enter Tryd.func82, Tryd.ntmps82
    go_wp2_with (go_at_call 102; refine (more_calls h hok 58 8).mono ?_; rintro e w' ⟨rfl, hm⟩)
    go_ret
    exact ⟨rfl, hm⟩
  · have bb : (c == 58) = false := beq_eq_false_iff_ne.mpr hb
    have M1 := Aside0.mk ((Mid.start h).alloc (.cells #[.int .u8 c] 5))
    have V1 := Aside0.mk (M1.out.vars hv hB)
    have HT := Aside0.mk (token_one c h0 h1)
    have HO := Aside0.mk hok
    cases ht : tokenB c with
    | false =>
      have HP := Aside0.mk (show dNamed d c = (d, 2) by unfold dNamed; rw [if_neg hb, if_pos ht])
      rw [HP.out]
      rw [ht] at HT
      clear ht hb HP h0 h1 h hv hok hB
      have hcv := conv_one w c
      go_enter Tryd.func82, Tryd.ntmps82
      go_wp2_with (go_at_call 101; refine (token_calls (one c) _ V1.out.1 (by simp [one_size])).mono ?_; rintro e w2 ⟨rfl, hb2⟩; rw [HT.out])
      go_ret
      exact ⟨rfl, M1.out.below hb2⟩
    | true =>
      have HP := Aside0.mk (show dNamed d c = dMore d c 7 by unfold dNamed; rw [if_neg hb, if_neg (by rw [ht]; simp)])
      rw [HP.out]
      rw [ht] at HT
      clear ht hb HP h0 h1 h hv hok hB
      have hcv := conv_one w c
      go_enter Tryd.func82, Tryd.ntmps82
      go_wp2_with fail
      refine (token_calls (one c) _ V1.out.1 (by simp [one_size])).mono ?_
      rintro e w2 ⟨rfl, hb2⟩
      rw [HT.out]
      have M2 := Aside0.mk (M1.out.below hb2)
      clear hb2 hcv
      go_wp2_with (go_at_call 102; refine (more_calls M2.out.1 HO.out c 7).mono ?_; rintro e w' ⟨rfl, hm⟩)
      go_ret
      exact ⟨rfl, M2.out.then hm⟩

def dValued (d : Dc) (c : Int) : Dc × Int := if c = 13 then dMore d c 9 else if textB c = false then (d, 2) else dMore d c 8
set_option maxRecDepth 100000 in
theorem valued_calls {B g : Nat} {S : Nat → Prop} {d : Dc} {w : World} (h : DcAt w B g S d) (hB : 2 ≤ B) (hv : Vars w) (hok : DcOk d) (c : Int) (h0 : 0 ≤ c) (h1 : c ≤ 255) :
    Calls Tryd.prog 83 #[.pointer (some ⟨g, 0, none⟩), .int .u8 c] w (MPost w B g S (dValued d c)) := by
  by_cases hb : c = 13
  · have HP := Aside0.mk (show dValued d c = dMore d c 9 by unfold dValued; rw [if_pos hb])
    rw [HP.out]
    subst hb
    go_enter Tryd.func83, Tryd.ntmps83
    go_wp2_with (go_at_call 102; refine (more_calls h hok 13 9).mono ?_; rintro e w' ⟨rfl, hm⟩)
    go_ret
    exact ⟨rfl, hm⟩
  · have bb : (c == 13) = false := beq_eq_false_iff_ne.mpr hb
    have M1 := Aside0.mk ((Mid.start h).alloc (.cells #[.int .u8 c] 5))
    have V1 := Aside0.mk (M1.out.vars hv hB)
    have HT := Aside0.mk (text_one c h0 h1)
    have HO := Aside0.mk hok
    cases ht : textB c with
    | false =>
      have HP := Aside0.mk (show dValued d c = (d, 2) by unfold dValued; rw [if_neg hb, if_pos ht])
      rw [HP.out]
      rw [ht] at HT
      clear ht hb HP h0 h1 h hv hok hB
      have hcv := conv_one w c
      go_enter Tryd.func83, Tryd.ntmps83
      go_wp2_with (go_at_call 100; refine (text_calls (one c) _ V1.out.1 (by simp [one_size])).mono ?_; rintro e w2 ⟨rfl, hb2⟩; rw [HT.out])
      go_ret
      exact ⟨rfl, M1.out.below hb2⟩
    | true =>
      have HP := Aside0.mk (show dValued d c = dMore d c 8 by unfold dValued; rw [if_neg hb, if_neg (by rw [ht]; simp)])
      rw [HP.out]
      rw [ht] at HT
      clear ht hb HP h0 h1 h hv hok hB
      have hcv := conv_one w c
      go_enter Tryd.func83, Tryd.ntmps83
      go_wp2_with fail
      refine (text_calls (one c) _ V1.out.1 (by simp [one_size])).mono ?_
      rintro e w2 ⟨rfl, hb2⟩
      rw [HT.out]
      have M2 := Aside0.mk (M1.out.below hb2)
      clear hb2 hcv
      go_wp2_with (go_at_call 102; refine (more_calls M2.out.1 HO.out c 8).mono ?_; rintro e w' ⟨rfl, hm⟩)
      go_ret
      exact ⟨rfl, M2.out.then hm⟩

def dFirst (d : Dc) (c : Int) : Dc × Int :=
  if c = 13 then ({ d with place := 10 }, 0) else if tokenB c = false then (d, 2) else if d.lines ≥ d.flds then (d, 5)
  else if (dMore d c 7).2 = 0 then ({ (dMore d c 7).1 with lines := d.lines + 1 }, 0) else dMore d c 7
set_option maxHeartbeats 1000000 in
set_option maxRecDepth 100000 in
theorem first_calls {B g : Nat} {S : Nat → Prop} {d : Dc} {w : World} (h : DcAt w B g S d) (hB : 2 ≤ B) (hv : Vars w) (hok : DcOk d) (c : Int) (h0 : 0 ≤ c) (h1 : c ≤ 255) :
    Calls Tryd.prog 81 #[.pointer (some ⟨g, 0, none⟩), .int .u8 c] w (MPost w B g S (dFirst d c)) := by
  by_cases hb : c = 13
  · have HP := Aside0.mk (show dFirst d c = dTo d 10 true by unfold dFirst; rw [if_pos hb]; rfl)
    rw [HP.out]
    subst hb
    go_enter Tryd.func81, Tryd.ntmps81
    go_wp2_with (go_at_call 99; refine (to_calls h 10 true).mono ?_; rintro e w' ⟨rfl, hm⟩)
    go_ret
    exact ⟨rfl, hm⟩
  · have bb : (c == 13) = false := beq_eq_false_iff_ne.mpr hb
    have M1 := Aside0.mk ((Mid.start h).alloc (.cells #[.int .u8 c] 5))
    have V1 := Aside0.mk (M1.out.vars hv hB)
    have HT := Aside0.mk (token_one c h0 h1)
    have HO := Aside0.mk hok
    cases ht : tokenB c with
    | false =>
      have HP := Aside0.mk (show dFirst d c = (d, 2) by unfold dFirst; rw [if_neg hb, if_pos ht])
      rw [HP.out]
      rw [ht] at HT
      clear ht hb HP h0 h1 h hv hok hB
      have hcv := conv_one w c
      go_enter Tryd.func81, Tryd.ntmps81
      go_wp2_with (go_at_call 101; refine (token_calls (one c) _ V1.out.1 (by simp [one_size])).mono ?_; rintro e w2 ⟨rfl, hb2⟩; rw [HT.out])
      go_ret
      exact ⟨rfl, M1.out.below hb2⟩
    | true =>
      rw [ht] at HT
      by_cases hc : d.lines ≥ d.flds
      · have b1 : decide (d.flds ≤ d.lines) = true := decide_eq_true hc
        have HP := Aside0.mk (show dFirst d c = (d, 5) by unfold dFirst; rw [if_neg hb, if_neg (by rw [ht]; simp), if_pos hc])
        rw [HP.out]
        clear ht hb HP h0 h1 h hv hok hB hc
        have hcv := conv_one w c
        go_enter Tryd.func81, Tryd.ntmps81
        go_wp2_with fail
        refine (token_calls (one c) _ V1.out.1 (by simp [one_size])).mono ?_
        rintro e w2 ⟨rfl, hb2⟩
        rw [HT.out]
        have M2 := Aside0.mk (M1.out.below hb2)
        have c6 := M2.out.1.get_lines
        have c1 := M2.out.1.get_flds
        clear hb2 hcv
        go_wp2_with fail
        go_quiet (fail)
        go_wp2_with fail
        go_ret
        exact ⟨rfl, M2.out.drawn _⟩
      · have b1 : decide (d.flds ≤ d.lines) = false := decide_eq_false hc
        by_cases hr : (dMore d c 7).2 = 0
        · have br : ((dMore d c 7).2 == 0) = true := beq_iff_eq.mpr hr
          have HP := Aside0.mk (show dFirst d c = ({ (dMore d c 7).1 with lines := d.lines + 1 }, 0) by unfold dFirst; rw [if_neg hb, if_neg (by rw [ht]; simp), if_neg hc, if_pos hr])
          rw [HP.out]
          clear ht hb HP h0 h1 h hv hok hB hc
          have hcv := conv_one w c
          go_enter Tryd.func81, Tryd.ntmps81
          go_wp2_with fail
          refine (token_calls (one c) _ V1.out.1 (by simp [one_size])).mono ?_
          rintro e w2 ⟨rfl, hb2⟩
          rw [HT.out]
          have M2 := Aside0.mk (M1.out.below hb2)
          have c6 := M2.out.1.get_lines
          have c1 := M2.out.1.get_flds
          clear hb2 hcv
          go_wp2_with fail
          go_quiet (fail)
          have M3 := Aside0.mk (M2.out.drawn nq)
          go_wp2_with fail
          refine (more_calls M3.out.1 HO.out c 7).mono ?_
          rintro e w3 ⟨rfl, hm⟩
          have M4 := Aside0.mk (M3.out.then hm)
          have q6 := M4.out.1.get_lines
          rw [dMore_lines] at q6
          have p6 := M4.out.1.frozen 6
          have l0 := HO.out.lines0
          have l1 := HO.out.lines1
          clear hm M3
          have HR := Aside0.mk hr
          clear hr
          go_wp2_with fail
          go_ret
          exact ⟨by rw [← HR.out]; rfl, M4.out.set_lines _⟩
        · have br : ((dMore d c 7).2 == 0) = false := beq_eq_false_iff_ne.mpr hr
          have HP := Aside0.mk (show dFirst d c = dMore d c 7 by unfold dFirst; rw [if_neg hb, if_neg (by rw [ht]; simp), if_neg hc, if_neg hr])
          rw [HP.out]
          clear ht hb HP h0 h1 h hv hok hB hc
          have hcv := conv_one w c
          go_enter Tryd.func81, Tryd.ntmps81
          go_wp2_with fail
          refine (token_calls (one c) _ V1.out.1 (by simp [one_size])).mono ?_
          rintro e w2 ⟨rfl, hb2⟩
          rw [HT.out]
          have M2 := Aside0.mk (M1.out.below hb2)
          have c6 := M2.out.1.get_lines
          have c1 := M2.out.1.get_flds
          clear hb2 hcv
          go_wp2_with fail
          go_quiet (fail)
          have M3 := Aside0.mk (M2.out.drawn nq)
          go_wp2_with fail
          refine (more_calls M3.out.1 HO.out c 7).mono ?_
          rintro e w3 ⟨rfl, hm⟩
          have M4 := Aside0.mk (M3.out.then hm)
          have q6 := M4.out.1.get_lines
          rw [dMore_lines] at q6
          have p6 := M4.out.1.frozen 6
          have l0 := HO.out.lines0
          have l1 := HO.out.lines1
          clear hm M3
          clear hr
          go_wp2_with fail
          go_ret
          exact ⟨rfl, M4.out⟩
end Go.Proofs.YtebjfgkgfgbndaaDoor
