/- The law DechunkBytes: a contract (walk) over this seat's translation. -/
import Derived.Test.YtebjfgkgfgbndaaDoorIb
namespace Go.Proofs.YtebjfgkgfgbndaaDoor
open Go.RowKit Go.Proofs.YtebjfgkgfgbndaaDoorW.PrintWords Go.Proofs.YtebjfgkgfgbndaaDoorW.PrintLast Go.Proofs.YtebjfgkgfgbndaaDoorW.PrintMore
open PBodyScans
set_option linter.unusedVariables false
set_option linter.unusedSimpArgs false

set_option maxHeartbeats 2000000 in
set_option maxRecDepth 100000 in
theorem bytes_calls (x y z : Int) (A : Option Addr) (c : Nat) (b : List Int) (w : World) (hv : Vars w) (hB : 2 ≤ w.heap.size) (hb : ArgBytes w A c b) :
    Calls Tryd.prog 5 #[.agg #[.int .i64 x, .int .i64 y, .int .i64 z], .slice A b.length c] w (TruePost w) := by
  have HV := Aside0.mk (And.intro hv hB)
  have HB := Aside0.mk hb
  clear hv hB hb
  have hal := (Below.refl w.heap.size w).alloc (Nat.le_refl _) (.cells #[.int .i64 x, .int .i64 y, .int .i64 z] 23)
  have HAL := Aside0.mk hal
  have HVA := Aside0.mk (HV.out.1.below hal)
  have HSA : Aside0 (2 ≤ (w.alloc (.cells #[.int .i64 x, .int .i64 y, .int .i64 z] 23)).heap.size) := ⟨Nat.le_trans HV.out.2 hal.size⟩
  clear hal
  by_cases h1 : 400 < (b.length : Int)
  · have b1 : decide (400 < (b.length : Int)) = true := decide_eq_true h1
    clear h1
    go_enter Tryd.func5, Tryd.ntmps5
    go_wp2_with fail
    refine (wakes_calls _ HVA.out HSA.out).mono ?_
    rintro e w1 ⟨rfl, hb1⟩
    have HB1 := Aside0.mk (below_then HAL.out HAL.out.size hb1)
    clear hb1
    go_wp2_with fail
    go_ret
    exact ⟨rfl, HB1.out⟩
  have b1 : decide (400 < (b.length : Int)) = false := decide_eq_false h1
  have H1 := Aside0.mk h1
  clear h1
  cases h3 : limB x y z with
  | false =>
    have H3 := Aside0.mk ((right_f x y z).trans (congrArg some h3))
    clear h3
    go_enter Tryd.func5, Tryd.ntmps5
    go_wp2_with fail
    refine (wakes_calls _ HVA.out HSA.out).mono ?_
    rintro e w1 ⟨rfl, hb1⟩
    have l0 := (hb1.cell (p := ⟨w.heap.size, 0, none⟩) (by simp)).trans (World.cell?_alloc_new w #[.int .i64 x, .int .i64 y, .int .i64 z] 23 0)
    have l1 := (hb1.cell (p := ⟨w.heap.size, 1, none⟩) (by simp)).trans (World.cell?_alloc_new w #[.int .i64 x, .int .i64 y, .int .i64 z] 23 1)
    have l2 := (hb1.cell (p := ⟨w.heap.size, 2, none⟩) (by simp)).trans (World.cell?_alloc_new w #[.int .i64 x, .int .i64 y, .int .i64 z] 23 2)
    have HB1 := Aside0.mk (below_then HAL.out HAL.out.size hb1)
    clear hb1
    go_wp2_with (first | (go_at_call 16; refine (catchpitref08_Right.calls x y z false _ H3.out).mono ?_; rintro e w2 ⟨rfl, h⟩))
    go_ret
    exact ⟨rfl, below_then HB1.out HB1.out.size h⟩
  | true =>
    have H3 := Aside0.mk ((right_f x y z).trans (congrArg some h3))
    have HL := Aside0.mk h3
    clear h3
    obtain ⟨⟨d1, n1, o1⟩, hrun⟩ : ∃ q, runB b (dc0 x y z) = q := ⟨_, rfl⟩
    obtain ⟨hk, he⟩ := putG_all (b := b) (dc0_inv HL.out)
    rw [hrun] at hk he
    have HRUN := Aside0.mk hrun
    have HK := Aside0.mk hk
    have HE := Aside0.mk he
    clear hk he hrun
    go_enter Tryd.func5, Tryd.ntmps5
    go_wp2_with fail
    refine (wakes_calls _ HVA.out HSA.out).mono ?_
    rintro e w1 ⟨rfl, hb1⟩
    have l0 := (hb1.cell (p := ⟨w.heap.size, 0, none⟩) (by simp)).trans (World.cell?_alloc_new w #[.int .i64 x, .int .i64 y, .int .i64 z] 23 0)
    have l1 := (hb1.cell (p := ⟨w.heap.size, 1, none⟩) (by simp)).trans (World.cell?_alloc_new w #[.int .i64 x, .int .i64 y, .int .i64 z] 23 1)
    have l2 := (hb1.cell (p := ⟨w.heap.size, 2, none⟩) (by simp)).trans (World.cell?_alloc_new w #[.int .i64 x, .int .i64 y, .int .i64 z] 23 2)
    have HW := Aside0.mk (show w.heap.size < w1.heap.size from Nat.lt_of_lt_of_le (by simp) hb1.size)
    have HB1 := Aside0.mk (below_then HAL.out HAL.out.size hb1)
    clear hb1
    go_wp2_with (first | (go_at_call 16; refine (catchpitref08_Right.calls x y z true _ H3.out).mono ?_; rintro e w2 ⟨rfl, hb2⟩; have m0 := (hb2.cell (p := ⟨w.heap.size, 0, none⟩) HW.out).trans l0; have m1 := (hb2.cell (p := ⟨w.heap.size, 1, none⟩) HW.out).trans l1; have m2 := (hb2.cell (p := ⟨w.heap.size, 2, none⟩) HW.out).trans l2; have HW2 := Aside0.mk (Nat.lt_of_lt_of_le HW.out hb2.size); have HB2 := Aside0.mk (below_then HB1.out HB1.out.size hb2); clear hb2))
    refine (new_yes x y z _ HL.out).mono ?_
    rintro e w3 ⟨g, rfl, hg, hd, hb3⟩
    have n0 := (hb3.cell (p := ⟨w.heap.size, 0, none⟩) HW2.out).trans m0
    have n1' := (hb3.cell (p := ⟨w.heap.size, 1, none⟩) HW2.out).trans m1
    have n2 := (hb3.cell (p := ⟨w.heap.size, 2, none⟩) HW2.out).trans m2
    have HD := Aside0.mk hd
    have HG := Aside0.mk hg
    have HB3 := Aside0.mk (below_then HB2.out HB2.out.size hb3)
    clear hb3 hd hg
    go_wp2_with fail
    refine (new_yes x y z _ HL.out).mono ?_
    rintro e w4 ⟨g2, rfl, hg2, hd2, hb4⟩
    have HD1 := Aside0.mk (HD.out.below hb4)
    have HD2 := Aside0.mk hd2
    have HG2 := Aside0.mk (And.intro hg2 (Nat.lt_of_lt_of_le HD.out.lt hg2))
    have HB4 := Aside0.mk (below_then HB3.out HB3.out.size hb4)
    clear hb4 hd2 hg2
    go_wp2_with fail
    have hab := HB.out.below HB4.out
    refine (put_calls HD1.out (Nat.le_trans HV.out.2 HB2.out.size) (HV.out.1.below HB4.out) (dc0_inv HL.out) (by simp [dc0]) A b c hab.reads hab.cap hab.range (by have := H1.out; omega) (fun ad ea en => ⟨by have := HB.out.lt ad ea en; have := HG.out; have := HB2.out.size; omega, fun h => h⟩) (b.length + 2) _ HK.out).mono ?_
    rintro e w5 ⟨va, Sd, Sa, rfl, hq5⟩
    have HP5 := Aside0.mk hq5
    have HB5 := Aside0.mk (HB4.out.trans (below_less hq5.below HB2.out.size))
    have HF0 : Aside0 (One w5 w5 w3.heap.size g2 (dc0 x y z) (.slice none 0 0) [] (fun _ => False) (fun _ => False)) := ⟨One.start (HD2.out.move fun k hk e => hq5.kept.2 k hk (fun e2 => by
      rcases e with rfl | e
      · rcases e2 with e2 | e2
        · have := HG2.out.2; omega
        · exact e2
      · exact e))⟩
    obtain ⟨A5, c5, hva⟩ := Kd.R_slice hq5.out
    subst hva
    clear hq5 hab
    dsimp only
    go_wp2_with fail
    go_loopg [12, 13, 61] (b.length + 1) (fun kq v12 v13 v61 W => ∃ (i : Nat) (t gg : Int) (Sf So : Nat → Prop), v61 = .int .i64 i ∧ v13 = .int .i64 (runB (b.take i) (dc0 x y z)).2.1 ∧ Aside0 (i ≤ b.length ∧ kq + i = b.length + 1) ∧ Aside0 (One w5 W w3.heap.size g2 ((runB (b.take i) (dc0 x y z)).1.tg t gg) v12 (runB (b.take i) (dc0 x y z)).2.2 Sf So) ∧ Aside0 (∀ k, Sf k → k < W.heap.size) ∧ Aside0 (DInv (runB (b.take i) (dc0 x y z)).1) ∧ Aside0 (0 ≤ (runB (b.take i) (dc0 x y z)).2.1 ∧ (runB (b.take i) (dc0 x y z)).2.1 ≤ i ∧ ((runB (b.take i) (dc0 x y z)).2.2.length : Int) ≤ i) ∧ Aside0 (0 ≤ t ∧ t ≤ i ∧ 0 ≤ gg ∧ gg ≤ i))
    case atStart => exact ⟨0, 0, 0, _, _, rfl, rfl, ⟨by omega, by omega⟩, HF0, ⟨fun _ h => h.elim⟩, ⟨dc0_inv HL.out⟩, ⟨by simp [runB]⟩, ⟨by omega⟩⟩
    case round =>
      obtain ⟨i, t, gg, Sf, So, rfl, rfl, HI, HO, HSF, HDI, HBD, HTG⟩ := hrel
      obtain ⟨⟨F, kf, out⟩, hcur⟩ : ∃ q, runB (b.take i) (dc0 x y z) = q := ⟨_, rfl⟩
      have HCUR := Aside0.mk hcur
      rw [hcur] at HO HDI HBD
      rw [hcur]
      dsimp only at HO HDI HBD ⊢
      clear hcur
      by_cases hi : (i : Int) < (b.length : Int)
      · have bi : decide ((i : Int) < (b.length : Int)) = true := decide_eq_true hi
        obtain ⟨i5, hi5, hs5⟩ := info5s
        have hi1 := hi
        obtain ⟨A2, hsl, hrd, hcc⟩ := print_mid_int (k := .u8) (P := Tryd.prog) 24 5 Tryd.underlying24 hi5 hs5 A c b (i : Int) ((i : Int) + 1) (by omega) (by omega) (by omega) HB.out.cap
        obtain ⟨ch, hch⟩ : ∃ ch, rd b (i : Int) = ch := ⟨_, rfl⟩
        have hpc : (b.take ((i : Int) + 1).toNat).drop (i : Int).toNat = [ch] := by
          rw [← hch]
          unfold rd
          have e1 : ((i : Int) + 1).toNat = i + 1 := by omega
          have e2 : (i : Int).toNat = i := by omega
          have e3 : i + 1 - i = 1 := by omega
          rw [e1, e2, List.drop_take, e3, List.drop_eq_getElem_cons (by omega), List.getD_eq_getElem?_getD, List.getElem?_eq_getElem (by omega)]
          rfl
        rw [hpc] at hsl hrd hcc
        have hcr : 0 ≤ ch ∧ ch ≤ 255 := HB.out.range ch (by rw [← hch]; unfold rd; rw [List.getD_eq_getElem?_getD, List.getElem?_eq_getElem (by omega)]; exact List.getElem_mem _)
        have HAB : Aside0 (ArgBytes w A2 (c - i) [ch]) := ⟨⟨hrd w HB.out.reads, hcc, fun q hq => by simp at hq; subst hq; exact hcr⟩⟩
        have hsn : runB (b.take (i + 1)) (dc0 x y z) = ((bput F ch).1, kf + (bput F ch).2.1, out ++ (bput F ch).2.2) := by
          rw [List.take_add_one, List.getElem?_eq_getElem (by omega)]
          have e3 : b[i]'(by omega) = ch := by
            rw [← hch]
            unfold rd
            rw [List.getD_eq_getElem?_getD]
            have e2 : (i : Int).toNat = i := by omega
            rw [e2, List.getElem?_eq_getElem (by omega)]
            rfl
          rw [e3]
          show runB (b.take i ++ [ch]) (dc0 x y z) = _
          rw [runB_snoc, HCUR.out]
        obtain ⟨hbp, hbe⟩ := bput_put (HDI.out.tg t gg) ch
        have hbt := bput_tgo F ch t gg
        obtain ⟨⟨F1, m, xs⟩, hq⟩ : ∃ q, bput F ch = q := ⟨_, rfl⟩
        rw [hq] at hsn hbt
        have hbt2 : bput { F with taken := t, given := gg } ch = (F1.tg t gg, m, xs) := hbt
        rw [hbt2] at hbp hbe
        have HSN := Aside0.mk hsn
        have HBP := Aside0.mk hbp
        have HBE := Aside0.mk hbe
        have hm0 : 0 ≤ m := hbe.n0
        have hm1 : m ≤ 1 := hbe.n1
        have HXL : Aside0 ((xs.length : Int) ≤ m) := ⟨by have := hbe.out1; simpa using this⟩
        have hkf0 := HBD.out.1
        have hkf1 := HBD.out.2.1
        have h400 : (b.length : Int) ≤ 400 := by have := H1.out; omega
        have HFI : Aside0 (DInv F1) := ⟨hbe.inv.tg F1.taken F1.given⟩
        have HLI : Aside0 (i < b.length) := ⟨by omega⟩
        cases gk with
        | zero => exact absurd HI.out (by omega)
        | succ k1 =>
        clear hsn hbp hbe hbt hbt2 hq hrd hcc hpc hch hcr hi5 hs5 hi
        go_wp2_with fail
        have hbw := HB5.out.trans (below_less HO.out.below HB3.out.size)
        have hab := HAB.out.below hbw
        refine (put_calls HO.out.dc (Nat.le_trans HV.out.2 HB3.out.size) (HV.out.1.below hbw) (HDI.out.tg t gg) ⟨HTG.out.1, by have := HTG.out.2.1; show t ≤ 1000000000; omega, HTG.out.2.2.1, by have := HTG.out.2.2.2; show gg ≤ 1000000000; omega⟩ A2 [ch] (c - i) hab.reads hab.cap hab.range (by simp) (fun ad ea en => by have h1 := HAB.out.lt ad ea en; have h2 := HG2.out.1; have h3 := HB3.out.size; have h4 := HB5.out.size; exact ⟨by omega, fun h => by have := HO.out.sf _ h; omega⟩) 3 _ HBP.out).mono ?_
        rintro e wp ⟨vx, Sx, Sy, rfl, hq6⟩
        obtain ⟨hone, hfar⟩ := HO.out.put hq6
        have HO6 := Aside0.mk hone
        obtain ⟨Ax, cx, rfl, hxle, hxC⟩ := Kd.R_reads hq6.out
        have HXC := Aside0.mk hxC
        have HR := Aside0.mk (Kd.R_mono (ok' := fun k => (So k ∧ k < wr.heap.size) ∨ wp.heap.size ≤ k) hone.out (fun _ h => .inl h))
        have HLL : Aside0 ((out.length + xs.length) * 1 ≤ 140737488355328) := ⟨by have := HBD.out.2.2; have := HXL.out; omega⟩
        clear hq6 hone hfar hxC hbw hab hxle
        dsimp only
        go_wp2_with ((with_reducible refine gate_builtin (b := .append) (xs := #[.tmp 75, .tmp 76]) rfl ?_); at_builtin; (refine Kd.R_append_rows (Kd.int .u8) (Rr := (Kd.int .u8).K wp) (w0 := w5) w3.heap.size rfl (.tmp 75) (.tmp 76) 24 5 (.int .u8 0) 1 rfl Tryd.underlying24 info5 rfl (by decide) (by decide) u12 out xs Ax xs.length cx (fun k => (So k ∧ k < wr.heap.size) ∨ wp.heap.size ≤ k) (fun _ => False) rfl rfl HR.out HXC.out (fun _ _ h => h) (fun _ h => h.elim) (fun _ h => .inr h) HO6.out.below HO6.out.dc.le HLL.out ?_); intro v1 w7 hR1 hB1 hg1 hat1; have HO7 := Aside0.mk (HO6.out.append (fun k h => h.2) hR1 hB1 hg1); have HS7 := Aside0.mk (show ∀ k, (Sx k ∧ k < wp.heap.size) → k < w7.heap.size from fun k h => Nat.lt_of_lt_of_le h.2 hg1.size); clear hR1 hB1 hg1 hat1)
        go_roundg k1
        case measure => have := HI.out; omega
        case rel =>
          refine ⟨i + 1, t + m, gg + (xs.length : Int), (fun k => Sx k ∧ k < wp.heap.size), (fun k => (So k ∧ k < wr.heap.size) ∨ wp.heap.size ≤ k), rfl, ?_, ⟨by have := HLI.out; omega, by have := HI.out; omega⟩, ?_, HS7, ⟨by rw [HSN.out]; exact HFI.out⟩, ⟨?_⟩, ⟨?_⟩⟩
          · rw [HSN.out]
          · rw [HSN.out]; exact HO7
          · rw [HSN.out]; have := HXL.out; have := HBD.out.2.2; dsimp only; rw [List.length_append]; push_cast; omega
          · have := HTG.out; have := HXL.out; push_cast; omega
      · have bi : decide ((i : Int) < (b.length : Int)) = false := decide_eq_false hi
        obtain rfl : i = b.length := by have := HI.out.1; omega
        have hc2 := HCUR.out
        rw [List.take_length, HRUN.out] at hc2
        simp only [Prod.mk.injEq] at hc2
        obtain ⟨rfl, rfl, rfl⟩ := hc2
        have hQ : ∀ k, k < w5.heap.size → (k = g ∨ Sd k ∨ Sa k) → wr.heap[k]? = w5.heap[k]? := fun k hk e => HO.out.block k hk (by
          have h1 := HG2.out.2
          have h2 := HD2.out.lt
          rcases e with e | e | e
          · omega
          · exact (HP5.out.sd k e).elim (fun h => h.elim) (fun h => by omega)
          · have := HP5.out.so k e; omega)
        have HDd : Aside0 (DcAt wr w2.heap.size g Sd { d1 with taken := (dc0 x y z).taken + n1, given := (dc0 x y z).given + (o1.length : Int) }) := ⟨HP5.out.dc.move fun k hk e => hQ k hk (e.imp_right .inl)⟩
        have HFf : Aside0 (DcAt wr w3.heap.size g2 Sf { d1 with taken := t, given := gg }) := ⟨HO.out.dc⟩
        have hRa := Kd.R_move (Kd.R_mono (Kd.R_bound HP5.out.out) (fun k hk => ⟨hk.1, hk.2.2.1⟩)) (fun k (hk : Sa k ∧ k < w5.heap.size) => hQ k hk.2 (.inr (.inr hk.1)))
        obtain ⟨Ba, ca, hea, hca, hCa⟩ := Kd.R_reads hRa
        simp only [Value.slice.injEq] at hea
        obtain ⟨rfl, -, rfl⟩ := hea
        obtain ⟨Bo, co, rfl, hco, hCo⟩ := Kd.R_reads HO.out.out
        have HSAME := Aside0.mk (same_refl o1 (by have := HBD.out.2.2; have := H1.out; omega))
        have HCC := Aside0.mk (And.intro (And.intro hca hCa) (And.intro hco hCo))
        have hfl : d1.fields.length ≤ 1000000 := by have h1 := HDI.out.ok.flen; have h2 := HDI.out.ok.lines1; omega
        have HFL := Aside0.mk hfl
        have HFR := Aside0.mk (fields_refl (dcFields d1) (by unfold dcFields; split; exact hfl; simp))
        have HBR := Aside0.mk (HB5.out.trans (below_less HO.out.below HB3.out.size))
        clear hQ hRa hca hCa hco hCo hfl hi
        go_wp2_with fail
        refine (catchpitref08_Same.calls (o1.length + 1) A5 _ o1 Bo _ o1 true _ HCC.out.1.2 HCC.out.1.1 HCC.out.2.2 HCC.out.2.1 HSAME.out).mono ?_
        rintro e w8 ⟨rfl, hd8⟩
        have hb8 : Below wr.heap.size wr w8 := Drawn0.below hd8
        have HD8 : Aside0 (DcAt w8 w2.heap.size g Sd { d1 with taken := (dc0 x y z).taken + n1, given := (dc0 x y z).given + (o1.length : Int) }) := ⟨HDd.out.below hb8⟩
        have HF8 : Aside0 (DcAt w8 w3.heap.size g2 Sf { d1 with taken := t, given := gg }) := ⟨HFf.out.below hb8⟩
        have HB8 := Aside0.mk (below_then HBR.out HBR.out.size hb8)
        have HLd : Aside0 (dcLeft { d1 with taken := (dc0 x y z).taken + n1, given := (dc0 x y z).given + (o1.length : Int) } = dcLeft d1) := ⟨rfl⟩
        have HLf : Aside0 (dcLeft { d1 with taken := t, given := gg } = dcLeft d1) := ⟨rfl⟩
        clear hd8 hb8
        go_wp2_with (first | (go_at_call 21; (with_reducible refine (err_calls HF8.out).mono ?_); rintro e w9 ⟨rfl, rfl⟩; dsimp only) | (go_at_call 19; (with_reducible refine (done_calls HD8.out).mono ?_); rintro e w9 ⟨rfl, rfl⟩; dsimp only) | (go_at_call 19; (with_reducible refine (done_calls HF8.out).mono ?_); rintro e w9 ⟨rfl, rfl⟩; dsimp only) | (go_at_call 25; (with_reducible refine (left_calls HD8.out).mono ?_); rintro e w9 ⟨rfl, rfl⟩; rw [HLd.out]) | (go_at_call 25; (with_reducible refine (left_calls HF8.out).mono ?_); rintro e w9 ⟨rfl, rfl⟩; rw [HLf.out]))
        refine (fields_calls HD8.out HFL.out).mono ?_
        rintro e w9 ⟨va, rfl, hva, hb9⟩
        have HF9 := Aside0.mk (HF8.out.below hb9)
        have HB9 := Aside0.mk (below_then HB8.out HB8.out.size hb9)
        have HVA9 : Aside0 (FieldsAt w9 va (dcFields d1)) := ⟨hva⟩
        clear hva hb9
        go_wp2_with fail
        refine (fields_calls HF9.out HFL.out).mono ?_
        rintro e w10 ⟨vf, rfl, hvf, hb10⟩
        have HB10 := Aside0.mk (below_then HB9.out HB9.out.size hb10)
        obtain ⟨Va, ca2, rfl, hle1, hC1⟩ := HVA9.out
        obtain ⟨Vf, cf2, rfl, hle2, hC2⟩ := hvf
        have HC1 := Aside0.mk (And.intro (Kd.C_below hC1 hb10) hle1)
        have HC2 : Aside0 (Kd.C k53 w10 Vf (dcFields d1).length (dcFields d1) ∧ (dcFields d1).length ≤ cf2) := ⟨hC2, hle2⟩
        clear hC1 hC2 hle1 hle2 hb10
        go_wp2_with fail
        refine (catchpitref05_Fields.calls ((dcFields d1).length + 1) Va ca2 (dcFields d1) Vf cf2 (dcFields d1) true _ HC1.out.1 HC1.out.2 HC2.out.1 HC2.out.2 HFR.out).mono ?_
        rintro e w11 ⟨rfl, hd11⟩
        have HB11 := Aside0.mk (below_then HB10.out HB10.out.size (Drawn0.below hd11))
        clear hd11
        go_wp2_with fail
        try rw [Exit.noGoto_ret]
        go_ret
        exact ⟨rfl, HB11.out⟩
end Go.Proofs.YtebjfgkgfgbndaaDoor
