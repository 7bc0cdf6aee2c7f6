/- Draws of texts. -/
import Derived.Test.YtfpojoabfdiadaaDoorTxtF
import Derived.Test.YtfpojoabfdiadaaDoorDrawM
namespace Go.Proofs.YtfpojoabfdiadaaDoor
open Go.RowKit
set_option linter.unusedVariables false
theorem num_lenG {n : Int} (h0 : -1048576 ≤ n) (h1 : n ≤ 1048576) : (num n).length ≤ 21 := Lib.itoa_length_le _ (by omega) (by omega)
theorem txt_lenG {W : Int} {z : List (Int × Int)} (hW : -1048576 ≤ W ∧ W ≤ 1048576) (hz : smallC z) : (txt W z).length ≤ 21 + 44 * z.length := by
  induction z with
  | nil => simpa [txt] using num_lenG hW.1 hW.2
  | cons c z ih =>
    have h1 := ih (fun x hx => hz x (by simp [hx]))
    have h2 := hz c (by simp)
    have h3 := num_lenG h2.1.1 h2.1.2
    have h4 := num_lenG h2.2.1 h2.2.2
    have e : (txt W (c :: z)).length = (txt W z).length + (pcT c).length := by simp [txt]; omega
    have e2 : (pcT c).length = 2 + (num c.1).length + (num c.2).length := by simp [pcT]; omega
    simp only [List.length_cons]
    omega
theorem decDigits_pos (n : Nat) : 0 < (Lib.decDigits n).length := by
  rw [Lib.decDigits_length]
  have := Lib.nDigits_pos n
  omega
theorem num_pos (n : Int) : 0 < (num n).length := by
  unfold num Lib.itoa
  split
  · simp
  · exact decDigits_pos _
theorem txt_pos (W : Int) (z : List (Int × Int)) : 0 < (txt W z).length := by
  have := num_pos W
  unfold txt
  rw [List.length_append]
  omega
set_option maxRecDepth 100000 in
set_option maxHeartbeats 1600000 in
theorem l12Text_small (W : Int) (A : Option Addr) (cs : List (Int × Int)) (c : Nat) (w : World) (hx : Reads w w.heap.size 2 A cs.length (cmps cs)) (hW : -1048576 ≤ W ∧ W ≤ 1048576) (hz : smallC cs) (hlen : cs.length ≤ 300) :
    Calls Tryd.prog 21 #[.agg #[.int .i64 W, .slice A cs.length c]] w fun e w' => e = .returned (.string (bs (txt W cs))) ∧ Below w.heap.size w w' := by
  have hb0 : Below w.heap.size w (w.alloc (.cells #[.int .i64 W, .slice A cs.length c] 30)) := by go_grown
  have k0 := Blk.new w 30 #[.int .i64 W, .slice A cs.length c]
  have hsz0 : (w.alloc (.cells #[.int .i64 W, .slice A cs.length c] 30)).heap.size = w.heap.size + 1 := by simp
  have HCS := Lib.hid hz
  have hWW := hW
  obtain ⟨w1, w2⟩ := hW
  clear hz
  go_enter Tryd.func21, Tryd.ntmps21
  go_wp2_with (go_at_call 38; refine (l1Num_any W (by omega) (by omega) _).mono ?_; rintro e w9 ⟨rfl, n9, rfl⟩)
  have b1 : Below (w.heap.size + 1) (w.alloc (.cells #[.int .i64 W, .slice A cs.length c] 30)) ((w.alloc (.cells #[.int .i64 W, .slice A cs.length c] 30)).drewN n9) := by rw [← hsz0]; exact below_drewN (Below.refl _ _) n9
  go_loopw [3, 4] (fun o i wr => ∃ k : Nat, k ≤ cs.length ∧ i = .int .i64 k ∧ o = .string (bs (txt W (cs.take k))) ∧ Below (w.heap.size + 1) (w.alloc (.cells #[.int .i64 W, .slice A cs.length c] 30)) wr) (fun _ i _ => cs.length - (intOf i).toNat)
  case atStart => exact ⟨0, by omega, rfl, by simp [txt], b1⟩
  case round =>
    clear b1
    obtain ⟨k, hk, rfl, rfl, hb⟩ := hrel
    have k1 := k0.below hb (by omega)
    have c0 : wr.cell? ⟨w.heap.size, 0, none⟩ = some (.int .i64 W) := k1.cell 0
    have c1 : wr.cell? ⟨w.heap.size, 1, none⟩ = some (.slice A cs.length c) := k1.cell 1
    have hlw := k1.lt
    have hb' := hb0.trans (hb.mono (by omega))
    by_cases hlt : k < cs.length
    · obtain ⟨ad, rfl, had, hc0, hc1⟩ := (hx.below hb').cmp hlt
      have ht := txt_take (W := W) hlt
      obtain ⟨⟨f1, f2⟩, f3, f4⟩ := HCS.out cs[k] (List.getElem_mem hlt)
      generalize hck : cs[k] = x at *
      have HP := Lib.hid (bs_pcS (p := txt W (cs.take k)) (c := x))
      rw [← ht] at HP
      have s0 : (bs (txt W (cs.take k))).size ≤ 14000 := by
        rw [bs_size]
        have := txt_lenG (W := W) (z := cs.take k) hWW (fun y hy => HCS.out y (List.mem_of_mem_take hy))
        have h2 : (cs.take k).length ≤ 300 := by rw [List.length_take]; omega
        omega
      have s1 : (bs (num x.1)).size ≤ 21 := by rw [bs_size]; exact num_lenG (by omega) (by omega)
      have s2 : (bs (num x.2)).size ≤ 21 := by rw [bs_size]; exact num_lenG (by omega) (by omega)
      clear ht hck
      obtain ⟨x1, x2⟩ := x
      simp only at hc0 hc1 f1 f2 f3 f4 s1 s2 HP
      generalize hT : bs (txt W (cs.take k)) = tt at s0 HP ⊢
      generalize hT2 : bs (txt W (cs.take (k + 1))) = tt2 at HP
      go_wp2_with fail
      go_quiet ((go_at_call 38; refine Calls.quiet_of (l1Num_any _ (by omega) (by omega) _)))
      go_wp2_with fail
      go_roundw
      case rel => exact ⟨k + 1, by omega, by go_num, by rw [hT2, ← HP.out], below_drewN hb _⟩
      case measure => simp [intOf]; omega
    · go_wp2_with fail
      go_ret
      have hk' : cs.take k = cs := List.take_of_length_le (by omega)
      exact ⟨by rw [hk']; rfl, hb'⟩
set_option maxRecDepth 100000 in
theorem DrawFormatNetwork_any (A : Option Addr) (bs : List Nat) (c : Nat) (w : World) (hr : Reads w w.heap.size 1 A bs.length (byts bs)) (hb : ∀ b ∈ bs, b ≤ 255) (hl : bs.length ≤ 65536) :
    Calls Tryd.prog 16 #[.slice A bs.length c] w (GotM w) := by
  have hB0 := alloc_ (Below.refl w.heap.size w) (.cells #[.int .i64 0, .slice none 0 0] 30)
  have HD := Lib.hid (DrawIsValidNetwork_any A bs c _ ((hr.below hB0).more hB0.size) hb hl)
  have hR0 := Blk.new w 30 #[.int .i64 0, .slice none 0 0]
  clear hr hb
  go_enter Tryd.func16, Tryd.ntmps16
  go_wp2_with fail
  refine HD.out.mono ?_
  rintro e w1 ⟨W, D, cs, d, rfl, hO1, hW, hl1, hsm, hb1⟩
  have hR := hR0.below hb1 hR0.lt
  have hB2 := hB0.trans (hb1.mono hB0.size)
  have hO := own_base hO1 hB0.size
  have HS := Lib.hid hsm
  clear hO1 hsm hR0 hb1 hB0
  have hf3 : Blk ((w1.setCell ⟨w.heap.size, 0, none⟩ (.int .i64 W)).setCell ⟨w.heap.size, 1, none⟩ (.slice D cs.length d)) w.heap.size 30 #[.int .i64 W, .slice D cs.length d] := by
    simpa using (hR.set_ 0 (.int .i64 W)).set_ 1 (.slice D cs.length d)
  obtain ⟨r0, r1⟩ := hf3.two
  have R0 := Lib.hid r0; have R1 := Lib.hid r1
  obtain ⟨z0, z1⟩ := hR.two
  have f0 := hR.frozen 0
  have f1 := hR.frozen 1
  have hrl := hR.lt
  have hgs := near_set (near_set (near_refl w1 (some w.heap.size)) 0 (.int .i64 W)) 1 (.slice D cs.length d)
  have HOF := Lib.hid (hO.kept hgs (.inr (own_blk_ne hO hR (by decide))))
  have HBF := Lib.hid (hB2.trans (below_near hgs (Nat.le_refl _) hB2.size))
  clear hf3 r0 r1 hgs
  go_wp2_with fail
  exact bodyPost_ret (v := .agg #[.int .i64 W, .slice D cs.length d]) (by simp [results, Tryd.results16, go_sem, R0.out, R1.out]) rfl (GotM.mk ⟨W, D, cs, d, rfl, HOF.out, hW, hl1, HS.out, HBF.out⟩)
def GotS (w : World) (p : Nat) (A : Option Addr) (ks : List Nat) (c M : Nat) (e : Ending) (w' : World) : Prop := ∃ s : ByteArray, e = .returned (.string s) ∧ s.size ≤ 2001 ∧ Cur w' p A ks c M ∧ w.grownBy w' (some p)
set_option maxRecDepth 100000 in
set_option maxHeartbeats 1600000 in
theorem spoilt_any (p : Nat) (A : Option Addr) (ks : List Nat) (c M : Nat) (l : List UInt8) (w : World) (hc : Cur w p A ks c M) (hM : M ≤ 274877906000) (h0 : 0 < l.length) (hl : l.length ≤ 2000) :
    Calls Tryd.prog 36 #[.pointer (some ⟨p, 0, none⟩), .string (bs l), .string ⟨#[32, 45, 48, 49, 50, 120]⟩] w (GotS w p A ks c (M + 6)) := by
  have hsz : (bs l).size = l.length := bs_size l
  have hne : (bs l).toList.isEmpty = false := by
    rw [bs_toList]
    cases l with
    | nil => simp at h0
    | cons a l => rfl
  have HC := Lib.hid hc
  clear hc
  go_enter Tryd.func36, Tryd.ntmps36
  go_wp2_with fail
  refine (pick_any p A ks c M (l.length : Int) w HC.out (by omega) (by omega) (by omega)).mono ?_
  rintro e w1 ⟨x1, hx1, rfl, hc1, hg1⟩
  have HC1 := Lib.hid hc1
  clear hc1
  go_wp2_with fail
  refine (pick_any p A ks c _ 6 w1 HC1.out (by omega) (by omega) (by omega)).mono ?_
  rintro e w2 ⟨x2, hx2, rfl, hc2, hg2⟩
  have HC2 := Lib.hid hc2
  have hG2 := near_step hg1 hg2 (fun k hk => .inl hk.symm)
  clear hc2 hg1 hg2
  have hx1' : x1 < l.length := by omega
  have hx2' : x2 < 6 := by omega
  clear hx1 hx2
  have a1 : (0 : Int) ≤ (x2 : Int) := by omega
  have a2 : (x2 : Int) ≤ 6 := by omega
  have hw0 : (⟨#[32, 45, 48, 49, 50, 120]⟩ : ByteArray).size = 6 := rfl
  have a3 : (1 : Int) ≤ ((⟨#[32, 45, 48, 49, 50, 120]⟩ : ByteArray).extract x2 6).size := by rw [ByteArray.size_extract, hw0]; omega
  have a4 : (((⟨#[32, 45, 48, 49, 50, 120]⟩ : ByteArray).extract x2 6).extract 0 1).size ≤ 1 := by rw [ByteArray.size_extract]; omega
  go_wp2_with fail
  generalize (((⟨#[32, 45, 48, 49, 50, 120]⟩ : ByteArray).extract x2 6).extract 0 1) = W1 at *
  refine (pick_any p A ks c _ 3 w2 HC2.out (by omega) (by omega) (by omega)).mono ?_
  rintro e w3 ⟨x3, hx3, rfl, hc3, hg3⟩
  have HC3 := Lib.hid hc3
  have HG3 := Lib.hid (near_step hG2 hg3 (fun k hk => .inl hk.symm))
  clear hc3 hG2 hg3 a1 a2 a3 hw0 hx2'
  have b1 : (0 : Int) ≤ (x1 : Int) := by omega
  have b2 : (x1 : Int) ≤ (bs l).size := by rw [hsz]; omega
  have b3 : (0 : Int) ≤ (x1 : Int) + 1 := by omega
  have b4 : (x1 : Int) + 1 ≤ (bs l).size := by rw [hsz]; omega
  have s1 : ((bs l).extract 0 x1).size ≤ x1 := by rw [ByteArray.size_extract]; omega
  have s2 : ((bs l).extract x1 l.length).size ≤ l.length - x1 := by rw [ByteArray.size_extract]; omega
  have s3 : ((bs l).extract (x1 + 1) l.length).size ≤ l.length - x1 - 1 := by rw [ByteArray.size_extract]; omega
  have e1 : (((bs l).extract 0 x1 ++ W1) ++ (bs l).extract x1 l.length).size ≤ 2001 := by rw [ByteArray.size_append', ByteArray.size_append']; omega
  have e2 : (((bs l).extract 0 x1 ++ W1) ++ (bs l).extract (x1 + 1) l.length).size ≤ 2001 := by rw [ByteArray.size_append', ByteArray.size_append']; omega
  have e3 : ((bs l).extract 0 x1 ++ (bs l).extract (x1 + 1) l.length).size ≤ 2001 := by rw [ByteArray.size_append']; omega
  have E1 := Lib.hid e1
  have E2 := Lib.hid e2
  have E3 := Lib.hid e3
  clear e1 e2 e3
  rcases (show x3 = 0 ∨ x3 = 1 ∨ x3 = 2 by omega) with rfl | rfl | rfl
  · go_wp2_with fail
    go_quiet (fail)
    go_wp2_with fail
    go_ret
    exact ⟨_, rfl, E1.out, HC3.out.drew _, near_drewN HG3.out _⟩
  · rw [show (((1 : Nat) : Int)) = 1 from rfl]
    go_wp2_with fail
    go_quiet (fail)
    go_wp2_with fail
    go_ret
    exact ⟨_, rfl, E2.out, HC3.out.drew _, near_drewN HG3.out _⟩
  · rw [show (((2 : Nat) : Int)) = 2 from rfl]
    go_wp2_with fail
    go_quiet (fail)
    go_wp2_with fail
    go_ret
    exact ⟨_, rfl, E3.out, HC3.out.drew _, near_drewN HG3.out _⟩
set_option maxRecDepth 100000 in
set_option maxHeartbeats 1600000 in
theorem DrawParseNetwork_any (A : Option Addr) (ks : List Nat) (c : Nat) (w : World) (hr : Reads w w.heap.size 1 A ks.length (byts ks)) (hb : ∀ b ∈ ks, b ≤ 255) (hl : ks.length ≤ 65536) :
    Calls Tryd.prog 17 #[.slice A ks.length c] w fun e w' => ∃ s : ByteArray, e = .returned (.string s) ∧ s.size ≤ 2001 ∧ Below w.heap.size w w' := by
  have HC0 := Lib.hid (cur_box (c := c) hr hb hl)
  have hG0 : w.grownBy (w.alloc (.cells #[.slice A ks.length c, .int .i64 0, .int .u64 0] 61)) (some w.heap.size) := World.grownBy_alloc _ _ _
  clear hr hb
  go_enter Tryd.func17, Tryd.ntmps17
  go_wp2_with fail
  refine (network_any w.heap.size A ks c 0 _ HC0.out (by omega)).mono ?_
  rintro e w1 ⟨W, D, cs, d, rfl, hO1, hW, hl1, hsm, hc1, hg1⟩
  have hG1 := near_step hG0 hg1 (fun k hk => .inl hk.symm)
  have HX := Lib.hid (l12Text_small W D cs d w1 (Reads.of_own hO1) (by omega) hsm (by omega))
  have htl := txt_lenG (W := W) (z := cs) (by omega) hsm
  have htp := txt_pos W cs
  have HC1 := Lib.hid hc1
  clear hc1 hg1 hG0 hO1 hsm
  go_wp2_with fail
  refine HX.out.mono ?_
  rintro e w2 ⟨rfl, hb2⟩
  have HC2 := Lib.hid (HC1.out.below hb2 HC1.out.lt)
  have hG2 := near_below hG1 hb2 hG1.size
  clear HX HC1 hG1 hb2
  generalize txt W cs = tl at *
  go_wp2_with fail
  refine (one_any w.heap.size A ks c _ 3 w2 HC2.out (by omega) (by omega) (by omega)).mono ?_
  rintro e w3 ⟨b, rfl, hc3, hg3⟩
  have HC3 := Lib.hid hc3
  have hG3 := near_step hG2 hg3 (fun k hk => .inl hk.symm)
  clear hc3 hg3 hG2
  cases b
  · go_wp2_with fail
    go_ret
    exact ⟨bs tl, rfl, by rw [bs_size]; omega, below_near hG3 (Nat.le_refl _) (Nat.le_refl _)⟩
  · have HSP := Lib.hid (spoilt_any w.heap.size A ks c _ tl w3 HC3.out (by omega) htp (by omega))
    go_wp2_with fail
    refine HSP.out.mono ?_
    rintro e w4 ⟨s, rfl, hs, hc4, hg4⟩
    have hG4 := near_step hG3 hg4 (fun k hk => .inl hk.symm)
    go_wp2_with fail
    go_ret
    exact ⟨s, rfl, hs, below_near hG4 (Nat.le_refl _) (Nat.le_refl _)⟩
end Go.Proofs.YtfpojoabfdiadaaDoor
