/- The functions of package octet over bytes: contracts (walks) over this seat's translation. -/
import Derived.Test.YtebjfgkgfgbndaaDoorPBodyScansx6
import Derived.Test.YtebjfgkgfgbndaaDoorShelf
namespace Go.Proofs.YtebjfgkgfgbndaaDoor
open Go.RowKit Go.Proofs.YtebjfgkgfgbndaaDoorW.PrintWords Go.Proofs.YtebjfgkgfgbndaaDoorW.PrintLast Go.Proofs.YtebjfgkgfgbndaaDoorW.PrintMore

/-- octet.ends as the program's text lays it. -/
def EndsAt (w : World) : Prop := w.heap[0]? = some (.cells #[.int .u8 48, .int .u8 57, .int .u8 65, .int .u8 90, .int .u8 97, .int .u8 122] 163 (0, 0))

def blankB (c : Int) : Bool := c == 32 || c == 9
def textB (c : Int) : Bool := blankB c || (decide (c > 32) && c != 127)
def alnumB (c : Int) : Bool := (decide (48 ≤ c) && decide (c ≤ 57)) || (decide (65 ≤ c) && decide (c ≤ 90)) || (decide (97 ≤ c) && decide (c ≤ 122))
def othersL : List UInt8 := [33, 35, 36, 37, 38, 39, 42, 43, 45, 46, 94, 95, 96, 124, 126]
def tokenB (c : Int) : Bool := alnumB c || decide (0 ≤ Lib.indexByte othersL c.toNat.toUInt8)

theorem blank_calls (c : Int) (w : World) :
    Calls Tryd.prog 116 #[.int .u8 c] w fun e w' => e = .returned (.bool (blankB c)) ∧ w = w' := by
  by_cases h : c = 32
  · subst h
    go_enter Tryd.func116, Tryd.ntmps116
    go_wp2
    go_ret
    exact ⟨rfl, rfl⟩
  · have hb : (c == 32) = false := beq_eq_false_iff_ne.mpr h
    have e : blankB c = (c == 9) := by simp [blankB, hb]
    have HE := Aside0.mk e
    clear e h
    go_enter Tryd.func116, Tryd.ntmps116
    go_wp2
    go_ret
    exact ⟨by rw [HE.out]; rfl, rfl⟩

theorem text1_calls (c : Int) (w : World) :
    Calls Tryd.prog 115 #[.int .u8 c] w fun e w' => e = .returned (.bool (textB c)) ∧ w = w' := by
  cases hb : blankB c with
  | true =>
    have HE := Aside0.mk (show textB c = true by simp [textB, hb])
    have HB := Aside0.mk hb
    clear hb
    go_enter Tryd.func115, Tryd.ntmps115
    go_wp2_with (go_at_call 116; refine (blank_calls _ _).mono ?_; rintro e w' ⟨rfl, rfl⟩; rw [HB.out])
    go_ret
    exact ⟨by rw [HE.out]; rfl, rfl⟩
  | false =>
    have HB := Aside0.mk hb
    by_cases h : c > 32
    · have HE := Aside0.mk (show textB c = (c != 127) by simp [textB, hb, h])
      have h1 : decide (32 < c) = true := decide_eq_true h
      clear hb h
      go_enter Tryd.func115, Tryd.ntmps115
      go_wp2_with (go_at_call 116; refine (blank_calls _ _).mono ?_; rintro e w' ⟨rfl, rfl⟩; rw [HB.out])
      go_ret
      exact ⟨by rw [HE.out]; rfl, rfl⟩
    · have HE := Aside0.mk (show textB c = false by simp [textB, hb, h])
      have h1 : decide (32 < c) = false := decide_eq_false h
      clear hb h
      go_enter Tryd.func115, Tryd.ntmps115
      go_wp2_with (go_at_call 116; refine (blank_calls _ _).mono ?_; rintro e w' ⟨rfl, rfl⟩; rw [HB.out])
      go_ret
      exact ⟨by rw [HE.out]; rfl, rfl⟩

theorem EndsAt.below {w w' : World} (h : EndsAt w) (hb : Below w.heap.size w w') : EndsAt w' := (hb.block 0 (Array.getElem?_eq_some_iff.1 h).1).trans h

theorem EndsAt.cells {w : World} (h : EndsAt w) : w.cell? ⟨0, 0, none⟩ = some (.int .u8 48) ∧ w.cell? ⟨0, 1, none⟩ = some (.int .u8 57) ∧ w.cell? ⟨0, 2, none⟩ = some (.int .u8 65) ∧ w.cell? ⟨0, 3, none⟩ = some (.int .u8 90) ∧ w.cell? ⟨0, 4, none⟩ = some (.int .u8 97) ∧ w.cell? ⟨0, 5, none⟩ = some (.int .u8 122) := by
  unfold EndsAt at h
  refine ⟨?_, ?_, ?_, ?_, ?_, ?_⟩ <;> simp [World.cell?, h]

set_option maxHeartbeats 1000000 in
set_option maxRecDepth 100000 in
theorem token1_calls (c : Int) (w : World) (hl : EndsAt w) (h0 : 0 ≤ c) (h1 : c ≤ 255) :
    Calls Tryd.prog 117 #[.int .u8 c] w fun e w' => e = .returned (.bool (tokenB c)) ∧ Below w.heap.size w w' := by
  obtain ⟨c0, c1, c2, c3, c4, c5⟩ := hl.cells
  have i0 : ∀ w, (Instr.index 163 (.agg #[.int .u8 48, .int .u8 57, .int .u8 65, .int .u8 90, .int .u8 97, .int .u8 122]) (.int .i64 0)).run Tryd.prog w = .ok (.agg #[.int .u8 48, .int .u8 57]) w := fun _ => by kernel_rfl
  have i1 : ∀ w, (Instr.index 163 (.agg #[.int .u8 48, .int .u8 57, .int .u8 65, .int .u8 90, .int .u8 97, .int .u8 122]) (.int .i64 1)).run Tryd.prog w = .ok (.agg #[.int .u8 65, .int .u8 90]) w := fun _ => by kernel_rfl
  have i2 : ∀ w, (Instr.index 163 (.agg #[.int .u8 48, .int .u8 57, .int .u8 65, .int .u8 90, .int .u8 97, .int .u8 122]) (.int .i64 2)).run Tryd.prog w = .ok (.agg #[.int .u8 97, .int .u8 122]) w := fun _ => by kernel_rfl
  have HL := Aside0.mk hl
  clear hl
  go_enter Tryd.func117, Tryd.ntmps117
  go_wp2_with fail
  go_loopw [6] (fun v wr => ∃ k : Nat, v = .int .i64 k ∧ Aside0 (k ≤ 3) ∧ Below w.heap.size w wr ∧ Aside0 ((0 < k → ¬ (48 ≤ c ∧ c ≤ 57)) ∧ (1 < k → ¬ (65 ≤ c ∧ c ≤ 90)) ∧ (2 < k → ¬ (97 ≤ c ∧ c ≤ 122)))) (fun v _ => 3 - (intOf v).toNat)
  case atStart => exact ⟨0, rfl, ⟨by omega⟩, Below.refl _ _, ⟨by omega, by omega, by omega⟩⟩
  case round =>
    obtain ⟨k, rfl, ⟨hk⟩, hb, ⟨hn⟩⟩ := hrel
    obtain rfl | rfl | rfl | rfl : k = 0 ∨ k = 1 ∨ k = 2 ∨ k = 3 := by omega
    · have HN := Aside0.mk hn
      clear hn hk
      by_cases g0 : 48 ≤ c
      · by_cases g1 : c ≤ 57
        · have d0 : decide (48 ≤ c) = true := decide_eq_true g0
          have d1 : decide (c ≤ 57) = true := decide_eq_true g1
          have HT := Aside0.mk (show tokenB c = true by simp [tokenB, alnumB, d0, d1])
          clear g0 g1
          go_wp2_with fail
          go_ret
          exact ⟨by rw [HT.out]; rfl, hb.alloc hb.size _⟩
        · have d0 : decide (48 ≤ c) = true := decide_eq_true g0
          have d1 : decide (c ≤ 57) = false := decide_eq_false g1
          have HT := Aside0.mk (show ¬ (48 ≤ c ∧ c ≤ 57) by omega)
          clear g0 g1
          go_wp2_with fail
          go_roundw
          case rel => exact ⟨1, rfl, ⟨by omega⟩, hb.alloc hb.size _, ⟨fun _ => HT.out, by omega, by omega⟩⟩
          case measure => simp [intOf]
      · have d0 : decide (48 ≤ c) = false := decide_eq_false g0
        have HT := Aside0.mk (show ¬ (48 ≤ c ∧ c ≤ 57) by omega)
        clear g0
        go_wp2_with fail
        go_roundw
        case rel => exact ⟨1, rfl, ⟨by omega⟩, hb.alloc hb.size _, ⟨fun _ => HT.out, by omega, by omega⟩⟩
        case measure => simp [intOf]
    · have HN := Aside0.mk hn
      clear hn hk
      by_cases g0 : 65 ≤ c
      · by_cases g1 : c ≤ 90
        · have d0 : decide (65 ≤ c) = true := decide_eq_true g0
          have d1 : decide (c ≤ 90) = true := decide_eq_true g1
          have HT := Aside0.mk (show tokenB c = true by simp [tokenB, alnumB, d0, d1])
          clear g0 g1
          go_wp2_with fail
          go_ret
          exact ⟨by rw [HT.out]; rfl, hb.alloc hb.size _⟩
        · have d0 : decide (65 ≤ c) = true := decide_eq_true g0
          have d1 : decide (c ≤ 90) = false := decide_eq_false g1
          have HT := Aside0.mk (show ¬ (65 ≤ c ∧ c ≤ 90) by omega)
          clear g0 g1
          go_wp2_with fail
          go_roundw
          case rel => exact ⟨2, rfl, ⟨by omega⟩, hb.alloc hb.size _, ⟨fun _ => HN.out.1 (by omega), fun _ => HT.out, by omega⟩⟩
          case measure => simp [intOf]
      · have d0 : decide (65 ≤ c) = false := decide_eq_false g0
        have HT := Aside0.mk (show ¬ (65 ≤ c ∧ c ≤ 90) by omega)
        clear g0
        go_wp2_with fail
        go_roundw
        case rel => exact ⟨2, rfl, ⟨by omega⟩, hb.alloc hb.size _, ⟨fun _ => HN.out.1 (by omega), fun _ => HT.out, by omega⟩⟩
        case measure => simp [intOf]
    · have HN := Aside0.mk hn
      clear hn hk
      by_cases g0 : 97 ≤ c
      · by_cases g1 : c ≤ 122
        · have d0 : decide (97 ≤ c) = true := decide_eq_true g0
          have d1 : decide (c ≤ 122) = true := decide_eq_true g1
          have HT := Aside0.mk (show tokenB c = true by simp [tokenB, alnumB, d0, d1])
          clear g0 g1
          go_wp2_with fail
          go_ret
          exact ⟨by rw [HT.out]; rfl, hb.alloc hb.size _⟩
        · have d0 : decide (97 ≤ c) = true := decide_eq_true g0
          have d1 : decide (c ≤ 122) = false := decide_eq_false g1
          have HT := Aside0.mk (show ¬ (97 ≤ c ∧ c ≤ 122) by omega)
          clear g0 g1
          go_wp2_with fail
          go_roundw
          case rel => exact ⟨3, rfl, ⟨by omega⟩, hb.alloc hb.size _, ⟨fun _ => HN.out.1 (by omega), fun _ => HN.out.2.1 (by omega), fun _ => HT.out⟩⟩
          case measure => simp [intOf]
      · have d0 : decide (97 ≤ c) = false := decide_eq_false g0
        have HT := Aside0.mk (show ¬ (97 ≤ c ∧ c ≤ 122) by omega)
        clear g0
        go_wp2_with fail
        go_roundw
        case rel => exact ⟨3, rfl, ⟨by omega⟩, hb.alloc hb.size _, ⟨fun _ => HN.out.1 (by omega), fun _ => HN.out.2.1 (by omega), fun _ => HT.out⟩⟩
        case measure => simp [intOf]
    · have HT := Aside0.mk (show tokenB c = decide (0 ≤ Lib.indexByte othersL c.toNat.toUInt8) by
        have a1 := hn.1 (by omega); have a2 := hn.2.1 (by omega); have a3 := hn.2.2 (by omega)
        have : alnumB c = false := by simp only [alnumB, Bool.or_eq_false_iff, Bool.and_eq_false_iff, decide_eq_false_iff_not]; omega
        simp [tokenB, this])
      clear hn hk
      go_wp2_with (go_at_call 118; refine (Tryd.strings_IndexByte ⟨othersL.toArray⟩ c _).mono ?_; rintro e w' ⟨rfl, rfl⟩)
      go_ret
      exact ⟨by rw [HT.out]; rfl, hb⟩

theorem bytesOf_range (s : ByteArray) : ∀ x ∈ bytesOf s, 0 ≤ x ∧ x ≤ 255 := by
  intro x hx
  obtain ⟨b, _, rfl⟩ := List.mem_map.1 hx
  have := b.toNat_lt
  omega
theorem all_snoc (p : Int → Bool) (l : List Int) (k : Nat) (hk : k < l.length) : (l.take (k + 1)).all p = ((l.take k).all p && p (l.getD k 0)) := by
  rw [List.take_succ_eq_append_getElem hk, List.all_append, List.getD_eq_getElem?_getD, List.getElem?_eq_getElem hk]
  simp
theorem conv_reads (w : World) (s : ByteArray) : ∃ W1 c, (convert 9 24 (.string s)).run Tryd.prog w = .ok (.slice (some ⟨w.heap.size, 0, none⟩) s.size c) W1 ∧ Below w.heap.size w W1 ∧ w.heap.size < W1.heap.size ∧
    ∀ j, j < s.size → W1.cell? ⟨w.heap.size, j, none⟩ = some (.int .u8 ((bytesOf s).getD j 0)) := by
  refine ⟨_, _, Lib.run_convert_string_bytes w 9 24 5 s Tryd.underlying9 Tryd.underlying24 Tryd.underlying5, bytes_below (Below.refl _ _) (Nat.le_refl _) 5 s, by rw [Lib.bytesWorld_size]; omega, fun j hj => ?_⟩
  rw [Lib.bytesWorld_cell w 5 s j hj]
  have hj' : j < s.data.toList.length := by simpa using hj
  simp [bytesOf, List.getD_eq_getElem?_getD, hj]


set_option maxHeartbeats 1000000 in
theorem all117_calls (s : ByteArray) (w : World) (hl : EndsAt w) (hs : s.size ≤ 9223372036854775806) :
    Calls Tryd.prog 114 #[.string s, .func (.func 117) #[] #[]] w fun e w' => e = .returned (.bool ((bytesOf s).all tokenB)) ∧ Below w.heap.size w w' := by
  obtain ⟨W1, c, hcv, hB, hsz, hcell⟩ := conv_reads w s
  have HL := Aside0.mk hl
  have HB := Aside0.mk hB
  have HC := Aside0.mk hcell
  have HS := Aside0.mk hs
  have HZ := Aside0.mk hsz
  clear hl hB hcell hs hsz
  have e117 : ∀ args w, (callFunc 117 args).run Tryd.prog w = .ok (.enter 117 args) w := enters_of Tryd.func117 (by kernel_rfl) rfl
  go_enter Tryd.func114, Tryd.ntmps114
  go_wp2_with fail
  clear hcv
  go_loopw [10] (fun v wr => ∃ k : Nat, v = .int .i64 k ∧ Aside0 (k ≤ s.size) ∧ Aside0 (Below w.heap.size w wr) ∧ Aside0 (Below W1.heap.size W1 wr) ∧ Aside0 (((bytesOf s).take k).all tokenB = true)) (fun v _ => s.size - (intOf v).toNat)
  case atStart => exact ⟨0, rfl, ⟨by omega⟩, HB, ⟨Below.refl _ _⟩, ⟨by simp⟩⟩
  case round =>
    obtain ⟨k, rfl, HK, HB1, HB2, HA⟩ := hrel
    by_cases hlt : k < s.size
    · have hcj : wr.cell? ⟨w.heap.size, k, none⟩ = some (.int .u8 ((bytesOf s).getD k 0)) := (HB2.out.cell (p := ⟨w.heap.size, k, none⟩) HZ.out).trans (HC.out k hlt)
      have hx : (bytesOf s).getD k 0 ∈ bytesOf s := by
        rw [List.getD_eq_getElem?_getD, List.getElem?_eq_getElem (by rw [bytesOf_length]; exact hlt)]
        exact List.getElem_mem _
      have hxr := bytesOf_range s _ hx
      have HN := Aside0.mk (all_snoc tokenB (bytesOf s) k (by rw [bytesOf_length]; exact hlt))
      clear hx
      generalize (bytesOf s).getD k 0 = x at *
      have HX := Aside0.mk hxr
      clear hxr
      have HBD := HS.out
      cases hp : tokenB x with
      | true =>
        have HP := Aside0.mk hp
        clear hp
        go_wp2_with (go_at_call 117; refine (token1_calls x _ (HL.out.below HB1.out) HX.out.1 HX.out.2).mono ?_; rintro e w2 ⟨rfl, hb2⟩; rw [HP.out]; have HB3 := Aside0.mk hb2; clear hb2)
        go_roundw
        case rel => exact ⟨k + 1, by go_num, ⟨by omega⟩, ⟨below_then HB1.out HB1.out.size HB3.out⟩, ⟨below_then HB2.out HB2.out.size HB3.out⟩, ⟨by rw [HN.out, HA.out, HP.out]; rfl⟩⟩
        case measure => simp [intOf]; omega
      | false =>
        have HP := Aside0.mk hp
        have HF : Aside0 ((bytesOf s).all tokenB = false) := ⟨by
          rw [← List.take_append_drop (k + 1) (bytesOf s), List.all_append, HN.out, hp]; simp⟩
        clear hp
        go_wp2_with (go_at_call 117; refine (token1_calls x _ (HL.out.below HB1.out) HX.out.1 HX.out.2).mono ?_; rintro e w2 ⟨rfl, hb2⟩; rw [HP.out]; have HB3 := Aside0.mk hb2; clear hb2)
        go_ret
        exact ⟨by rw [HF.out]; rfl, below_then HB1.out HB1.out.size HB3.out⟩
    · have hkk : k = s.size := by have := HK.out; omega
      have HF : Aside0 ((bytesOf s).all tokenB = true) := ⟨by have := HA.out; rwa [List.take_of_length_le (by rw [bytesOf_length]; omega)] at this⟩
      clear hkk
      go_wp2_with fail
      go_ret
      exact ⟨by rw [HF.out]; rfl, HB1.out⟩

set_option maxHeartbeats 1000000 in
theorem all115_calls (s : ByteArray) (w : World) (hl : EndsAt w) (hs : s.size ≤ 9223372036854775806) :
    Calls Tryd.prog 114 #[.string s, .func (.func 115) #[] #[]] w fun e w' => e = .returned (.bool ((bytesOf s).all textB)) ∧ Below w.heap.size w w' := by
  obtain ⟨W1, c, hcv, hB, hsz, hcell⟩ := conv_reads w s
  have HL := Aside0.mk hl
  have HB := Aside0.mk hB
  have HC := Aside0.mk hcell
  have HS := Aside0.mk hs
  have HZ := Aside0.mk hsz
  clear hl hB hcell hs hsz
  have e115 : ∀ args w, (callFunc 115 args).run Tryd.prog w = .ok (.enter 115 args) w := enters_of Tryd.func115 (by kernel_rfl) rfl
  go_enter Tryd.func114, Tryd.ntmps114
  go_wp2_with fail
  clear hcv
  go_loopw [10] (fun v wr => ∃ k : Nat, v = .int .i64 k ∧ Aside0 (k ≤ s.size) ∧ Aside0 (Below w.heap.size w wr) ∧ Aside0 (Below W1.heap.size W1 wr) ∧ Aside0 (((bytesOf s).take k).all textB = true)) (fun v _ => s.size - (intOf v).toNat)
  case atStart => exact ⟨0, rfl, ⟨by omega⟩, HB, ⟨Below.refl _ _⟩, ⟨by simp⟩⟩
  case round =>
    obtain ⟨k, rfl, HK, HB1, HB2, HA⟩ := hrel
    by_cases hlt : k < s.size
    · have hcj : wr.cell? ⟨w.heap.size, k, none⟩ = some (.int .u8 ((bytesOf s).getD k 0)) := (HB2.out.cell (p := ⟨w.heap.size, k, none⟩) HZ.out).trans (HC.out k hlt)
      have hx : (bytesOf s).getD k 0 ∈ bytesOf s := by
        rw [List.getD_eq_getElem?_getD, List.getElem?_eq_getElem (by rw [bytesOf_length]; exact hlt)]
        exact List.getElem_mem _
      have hxr := bytesOf_range s _ hx
      have HN := Aside0.mk (all_snoc textB (bytesOf s) k (by rw [bytesOf_length]; exact hlt))
      clear hx
      generalize (bytesOf s).getD k 0 = x at *
      have HX := Aside0.mk hxr
      clear hxr
      have HBD := HS.out
      cases hp : textB x with
      | true =>
        have HP := Aside0.mk hp
        clear hp
        go_wp2_with (go_at_call 115; refine (text1_calls x _).mono ?_; rintro e w2 ⟨rfl, rfl⟩; rw [HP.out])
        go_roundw
        case rel => exact ⟨k + 1, by go_num, ⟨by omega⟩, HB1, HB2, ⟨by rw [HN.out, HA.out, HP.out]; rfl⟩⟩
        case measure => simp [intOf]; omega
      | false =>
        have HP := Aside0.mk hp
        have HF : Aside0 ((bytesOf s).all textB = false) := ⟨by
          rw [← List.take_append_drop (k + 1) (bytesOf s), List.all_append, HN.out, hp]; simp⟩
        clear hp
        go_wp2_with (go_at_call 115; refine (text1_calls x _).mono ?_; rintro e w2 ⟨rfl, rfl⟩; rw [HP.out])
        go_ret
        exact ⟨by rw [HF.out]; rfl, HB1.out⟩
    · have hkk : k = s.size := by have := HK.out; omega
      have HF : Aside0 ((bytesOf s).all textB = true) := ⟨by have := HA.out; rwa [List.take_of_length_le (by rw [bytesOf_length]; omega)] at this⟩
      clear hkk
      go_wp2_with fail
      go_ret
      exact ⟨by rw [HF.out]; rfl, HB1.out⟩
end Go.Proofs.YtebjfgkgfgbndaaDoor
