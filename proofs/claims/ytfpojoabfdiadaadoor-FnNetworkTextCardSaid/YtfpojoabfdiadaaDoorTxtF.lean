/- A network's text: the program's and the reference's. -/
import Derived.Test.YtfpojoabfdiadaaDoorTxtN
namespace Go.Proofs.YtfpojoabfdiadaaDoor
open Go.RowKit
set_option linter.unusedVariables false
set_option maxRecDepth 100000 in
set_option maxHeartbeats 1600000 in
theorem FormatNetwork_any (W : Int) (A : Option Addr) (cs : List (Int × Int)) (c : Nat) (w : World) (hx : Reads w w.heap.size 2 A cs.length (cmps cs)) (hl : cs.length ≤ 1099511627776) :
    Calls Tryd.prog 9 #[.agg #[.int .i64 W, .slice A cs.length c]] w fun e w' => e = .returned (.tuple #[.string (bs (fmtV W cs)), .bool (netOk W cs)]) ∧ Below w.heap.size w w' := by
  have hb0 : Below w.heap.size w (w.alloc (.cells #[.int .i64 W, .slice A cs.length c] 30)) := by go_grown
  have k0 := Blk.new w 30 #[.int .i64 W, .slice A cs.length c]
  have HV := Lib.hid (IsValidNetwork_any W A cs c _ ((hx.below hb0).more hb0.size) hl)
  have hsz0 : (w.alloc (.cells #[.int .i64 W, .slice A cs.length c] 30)).heap.size = w.heap.size + 1 := by simp
  cases hg : netOk W cs
  · have hf : fmtV W cs = [] := by simp [fmtV, hg]
    rw [hg] at HV
    go_enter Tryd.func9, Tryd.ntmps9
    go_wp2_with fail
    refine HV.out.mono ?_
    rintro e w1 ⟨rfl, hb1⟩
    go_wp2_with fail
    go_ret2
    exact ⟨by rw [hf]; rfl, bthen hb0 hb1⟩
  have hf : fmtV W cs = txt W cs := by simp [fmtV, hg]
  rw [hg] at HV
  obtain ⟨⟨w1, w2⟩, hlen, hcs⟩ := netOk_facts hg
  have HCS := Lib.hid hcs
  clear hcs hg
  go_enter Tryd.func9, Tryd.ntmps9
  go_wp2_with fail
  refine HV.out.mono ?_
  rintro e w1' ⟨rfl, hb1⟩
  have hb1' := bthen hb0 hb1
  have k1 := k0.below hb1 (by simp)
  have c0 : w1'.cell? ⟨w.heap.size, 0, none⟩ = some (.int .i64 W) := k1.cell 0
  have c1 : w1'.cell? ⟨w.heap.size, 1, none⟩ = some (.slice A cs.length c) := k1.cell 1
  have hlt1 := k1.lt
  go_wp2_with (go_at_call 24; refine (Itoa_at _ (by omega) (by omega) _).mono ?_; rintro e w' ⟨rfl, rfl⟩)
  have hA1 := hb1'
  go_loopw [4, 16] (fun o i wr => ∃ k : Nat, k ≤ cs.length ∧ i = .int .i64 k ∧ o = .string (bs (txt W (cs.take k))) ∧ Below w.heap.size w wr) (fun _ i _ => cs.length - (intOf i).toNat)
  case atStart => exact ⟨0, by omega, rfl, by simp [txt], hA1⟩
  case round =>
    clear hA1 c0 c1 k1 hb1 hb1' hlt1
    obtain ⟨k, hk, rfl, rfl, hb⟩ := hrel
    by_cases hlt : k < cs.length
    · obtain ⟨ad, rfl, had, hc0, hc1⟩ := (hx.below hb).cmp hlt
      have hwB := hb.size
      have ht := txt_take (W := W) hlt
      obtain ⟨⟨f1, f2⟩, f3, f4⟩ := HCS.out cs[k] (List.getElem_mem hlt)
      generalize hck : cs[k] = x at *
      have HP := Lib.hid (bs_pc (p := txt W (cs.take k)) (c := x))
      rw [← ht] at HP
      have s0 : (bs (txt W (cs.take k))).size ≤ 1300 := by
        rw [bs_size]
        have := txt_len (W := W) (z := cs.take k) ⟨by omega, by omega⟩ (fun y hy => by have := HCS.out y (List.mem_of_mem_take hy); omega)
        have h2 : (cs.take k).length ≤ 200 := by rw [List.length_take]; omega
        omega
      have s1 : (bs (num x.1)).size ≤ 2 := by rw [bs_size]; exact num_len (by omega) (by omega)
      have s2 : (bs (num x.2)).size ≤ 2 := by rw [bs_size]; exact num_len (by omega) (by omega)
      clear ht hck
      obtain ⟨x1, x2⟩ := x
      simp only at hc0 hc1 f1 f2 f3 f4 s1 s2 HP
      have had1 : (ad.add (k * 2)).block < wr.heap.size := by rw [block_of_add]; omega
      have hcb := Blk.new wr 48 #[.int .i64 x1, .int .i64 x2]
      obtain ⟨e0, e1⟩ := hcb.two
      have hb1 := alloc_ hb (.cells #[.int .i64 x1, .int .i64 x2] 48)
      go_upto_region 7 with fail
      generalize wr.heap.size = m at e0 e1 hcb ⊢
      generalize wr.alloc (.cells #[.int .i64 x1, .int .i64 x2] 48) = wa at e0 e1 hcb hb1 ⊢
      generalize hT : bs (txt W (cs.take k)) = tt at s0 HP ⊢
      generalize hT2 : bs (txt W (cs.take (k + 1))) = tt2 at HP
      go_quiet ((go_at_call 24; refine Calls.quiet_of_same (Itoa_at _ (by omega) (by omega) _)))
      go_wp2_with fail
      go_roundw
      case rel => exact ⟨k + 1, by omega, by go_num, by rw [hT2, ← HP.out], below_drewN hb1 _⟩
      case measure => simp [intOf]; omega
    · go_wp2_with fail
      go_ret2
      have hk' : cs.take k = cs := List.take_of_length_le (by omega)
      exact ⟨by rw [hf, hk']; rfl, hb⟩
theorem sFmt_len {W : Int} {z : List (Int × Int)} (h : netOk W z = true) : (txt W z).length ≤ 1202 := by
  obtain ⟨⟨w1, w2⟩, hlen, hcs⟩ := netOk_facts h
  have := txt_len (W := W) (z := z) ⟨by omega, by omega⟩ (fun y hy => by have := hcs y hy; omega)
  omega
set_option maxRecDepth 100000 in
set_option maxHeartbeats 1600000 in
theorem l12Text_any (W : Int) (A : Option Addr) (cs : List (Int × Int)) (c : Nat) (w : World) (hx : Reads w w.heap.size 2 A cs.length (cmps cs)) (hg : netOk W cs = true) :
    Calls Tryd.prog 21 #[.agg #[.int .i64 W, .slice A cs.length c]] w fun e w' => e = .returned (.string (bs (txt W cs))) ∧ Below w.heap.size w w' := by
  have hb0 : Below w.heap.size w (w.alloc (.cells #[.int .i64 W, .slice A cs.length c] 30)) := by go_grown
  have k0 := Blk.new w 30 #[.int .i64 W, .slice A cs.length c]
  have hsz0 : (w.alloc (.cells #[.int .i64 W, .slice A cs.length c] 30)).heap.size = w.heap.size + 1 := by simp
  obtain ⟨⟨w1, w2⟩, hlen, hcs⟩ := netOk_facts hg
  have HCS := Lib.hid hcs
  clear hcs hg
  go_enter Tryd.func21, Tryd.ntmps21
  go_wp2_with (go_at_call 38; refine (l1Num_any W (by omega) (by omega) _).mono ?_; rintro e w9 ⟨rfl, n9, rfl⟩)
  have b1 : Below (w.heap.size + 1) (w.alloc (.cells #[.int .i64 W, .slice A cs.length c] 30)) ((w.alloc (.cells #[.int .i64 W, .slice A cs.length c] 30)).drewN n9) := by rw [← hsz0]; exact below_drewN (Below.refl _ _) n9
  go_loopw [3, 4] (fun o i wr => ∃ k : Nat, k ≤ cs.length ∧ i = .int .i64 k ∧ o = .string (bs (txt W (cs.take k))) ∧ Below (w.heap.size + 1) (w.alloc (.cells #[.int .i64 W, .slice A cs.length c] 30)) wr) (fun _ i _ => cs.length - (intOf i).toNat)
  case atStart => exact ⟨0, by omega, rfl, by simp [txt], b1⟩
  case round =>
    clear b1
    obtain ⟨k, hk, rfl, rfl, hb⟩ := hrel
    have k1 := k0.below hb (by omega)
    have c0 : wr.cell? ⟨w.heap.size, 0, none⟩ = some (.int .i64 W) := k1.cell 0
    have c1 : wr.cell? ⟨w.heap.size, 1, none⟩ = some (.slice A cs.length c) := k1.cell 1
    have hlw := k1.lt
    have hb' := hb0.trans (hb.mono (by omega))
    by_cases hlt : k < cs.length
    · obtain ⟨ad, rfl, had, hc0, hc1⟩ := (hx.below hb').cmp hlt
      have ht := txt_take (W := W) hlt
      obtain ⟨⟨f1, f2⟩, f3, f4⟩ := HCS.out cs[k] (List.getElem_mem hlt)
      generalize hck : cs[k] = x at *
      have HP := Lib.hid (bs_pcS (p := txt W (cs.take k)) (c := x))
      rw [← ht] at HP
      have s0 : (bs (txt W (cs.take k))).size ≤ 1300 := by
        rw [bs_size]
        have := txt_len (W := W) (z := cs.take k) ⟨by omega, by omega⟩ (fun y hy => by have := HCS.out y (List.mem_of_mem_take hy); omega)
        have h2 : (cs.take k).length ≤ 200 := by rw [List.length_take]; omega
        omega
      have s1 : (bs (num x.1)).size ≤ 2 := by rw [bs_size]; exact num_len (by omega) (by omega)
      have s2 : (bs (num x.2)).size ≤ 2 := by rw [bs_size]; exact num_len (by omega) (by omega)
      clear ht hck
      obtain ⟨x1, x2⟩ := x
      simp only at hc0 hc1 f1 f2 f3 f4 s1 s2 HP
      generalize hT : bs (txt W (cs.take k)) = tt at s0 HP ⊢
      generalize hT2 : bs (txt W (cs.take (k + 1))) = tt2 at HP
      go_wp2_with fail
      go_quiet ((go_at_call 38; refine Calls.quiet_of (l1Num_any _ (by omega) (by omega) _)))
      go_wp2_with fail
      go_roundw
      case rel => exact ⟨k + 1, by omega, by go_num, by rw [hT2, ← HP.out], below_drewN hb _⟩
      case measure => simp [intOf]; omega
    · go_wp2_with fail
      go_ret
      have hk' : cs.take k = cs := List.take_of_length_le (by omega)
      exact ⟨by rw [hk']; rfl, hb'⟩
set_option maxRecDepth 100000 in
set_option maxHeartbeats 800000 in
theorem sFormatNetwork_any (W : Int) (A : Option Addr) (cs : List (Int × Int)) (c : Nat) (w : World) (hx : Reads w w.heap.size 2 A cs.length (cmps cs)) (hl : cs.length ≤ 1099511627776) :
    Calls Tryd.prog 7 #[.agg #[.int .i64 W, .slice A cs.length c]] w fun e w' => e = .returned (.tuple #[.string (bs (fmtV W cs)), .bool (netOk W cs)]) ∧ Below w.heap.size w w' := by
  have hb0 : Below w.heap.size w (w.alloc (.cells #[.int .i64 W, .slice A cs.length c] 30)) := by go_grown
  have k0 := Blk.new w 30 #[.int .i64 W, .slice A cs.length c]
  have HV := Lib.hid (l12Good_any W A cs c _ ((hx.below hb0).more hb0.size) hl)
  cases hg : netOk W cs
  · have hf : fmtV W cs = [] := by simp [fmtV, hg]
    rw [hg] at HV
    go_enter Tryd.func7, Tryd.ntmps7
    go_wp2_with fail
    refine HV.out.mono ?_
    rintro e w1 ⟨rfl, hb1⟩
    go_wp2_with fail
    go_ret2
    exact ⟨by rw [hf]; rfl, bthen hb0 hb1⟩
  have hf : fmtV W cs = txt W cs := by simp [fmtV, hg]
  have HG := Lib.hid hg
  rw [hg] at HV
  clear hg
  go_enter Tryd.func7, Tryd.ntmps7
  go_wp2_with fail
  refine HV.out.mono ?_
  rintro e w1 ⟨rfl, hb1⟩
  obtain ⟨B1, k1⟩ := step_box hb1
  obtain ⟨x0, x1⟩ := k1.two
  have HT := Lib.hid (l12Text_any W A cs c w1 ((hx.below B1).more B1.size) HG.out)
  clear HV
  go_wp2_with fail
  refine HT.out.mono ?_
  rintro e w2 ⟨rfl, hb2⟩
  go_wp2_with fail
  go_ret2
  exact ⟨by rw [hf]; rfl, bthen B1 hb2⟩
end Go.Proofs.YtfpojoabfdiadaaDoor
