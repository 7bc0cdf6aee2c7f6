/- Lists of lists of records as arguments: counted and copied (turned by gen_nestq.py). -/
import Derived.Test.YtifjihpnhmemgaaArgRR
import Derived.Test.YtifjihpnhmemgaaNestQ
import Derived.IntWalk
import Derived.Deep.QuietTactic
import Derived.BigQuiet
namespace Go.Proofs.Ytifjihpnhmemgaa
open Go.RowKit
set_option linter.unusedVariables false
theorem szvw (n : Nat) (left : Int) (h0 : 0 ≤ left) : szv n left = szw n left := by
  unfold szv szw
  split <;> split <;> omega
theorem szRecordS_w (A : Option Addr) (n c : Nat) (left : Int) (w : World) (hm : n ≤ maxLen) (h0 : 0 ≤ left) (h1 : left ≤ 1048576) :
    Calls Try.prog 14 #[.slice A n c, .int .i64 left] w fun e w' => e = .returned (.int .i64 (szw n left)) ∧ w = w' := by
  rw [← szvw n left h0]
  exact szRecordS_any A n c left w hm (by omega) h1
set_option maxRecDepth 100000 in
set_option maxHeartbeats 800000 in
theorem szRecordSS_any (A : Option Addr) (zss : List (List (Int × Int))) (c : Nat) (left : Int) (w : World) (hx : ReadsQQ w w.heap.size A zss) (hm : zss.length ≤ maxLen) (hin : ∀ zs ∈ zss, zs.length ≤ maxLen) (h0 : 0 ≤ left) (h1 : left ≤ 1048576) :
    Calls Try.prog 5 #[.slice A zss.length c, .int .i64 left] w fun e w' => e = .returned (.int .i64 (szw (zss.length + (zss.map List.length).sum) left)) ∧ w = w' := by
  have hml : (zss.map List.length).length = zss.length := by simp
  have HGE : Hid (∀ k (h : k < zss.length), zss[k].length = (zss.map List.length)[k]?.getD 0 ∧ zss[k].length ≤ maxLen) := Lib.hid (by intro k h; exact ⟨by simp [h], hin _ (List.getElem_mem h)⟩)
  clear hin
  generalize hls : zss.map List.length = ls at *
  clear hls
  unfold maxLen at hm
  by_cases h : 0 ≤ left - (zss.length : Int)
  · have h' : ¬ left - (zss.length : Int) < 0 := by omega
    go_enter Try.func5, Try.ntmps5
    go_wp2_with fail
    go_loop [1, 5] (fun t i => ∃ k : Nat, k ≤ zss.length ∧ i = .int .i64 k ∧ t = .int .i64 (left - zss.length - ((ls.take k).sum : Nat)) ∧ (zss.length : Int) + ((ls.take k).sum : Nat) ≤ left) (fun _ i => zss.length - (intOf i).toNat)
    case atStart => exact ⟨0, by omega, rfl, by simp, by simp; omega⟩
    case round =>
      obtain ⟨k, hk, rfl, rfl, hsl⟩ := hrel
      by_cases hlt : k < zss.length
      · obtain ⟨ad, A', c', rfl, hc, hr⟩ := hx.at_ hlt
        have hkl : k < ls.length := by omega
        have hss := sum_take_succ hkl
        have hle := sum_take_le ls (k + 1)
        obtain ⟨hge, hgm⟩ := HGE.out k hlt
        rw [List.getElem?_eq_getElem hkl, Option.getD_some] at hge
        have HSS := Lib.hid (show (ls.take (k + 1)).sum = (ls.take k).sum + zss[k].length by omega)
        have HLE := Lib.hid (show (ls.take k).sum + zss[k].length ≤ ls.sum by omega)
        clear hss hle hge hr
        generalize zss[k].length = lk at *
        rcases szw_cases lk (left - zss.length - ((ls.take k).sum : Nat)) (by omega) (by omega) with hz | ⟨hl2, hze, hzp⟩
        · have hfin : szw (zss.length + ls.sum) left = -1 := by
            have h3 := HLE.out
            unfold szw at hz ⊢
            rw [if_neg]
            split at hz <;> omega
          have HF := Lib.hid hfin; clear hfin
          go_wp2_with (go_at_call 14; refine (szRecordS_w A' lk c' _ _ hgm (by omega) (by omega)).mono ?_; rintro e w1 ⟨rfl, rfl⟩)
          go_ret
          exact ⟨reti HF.out.symm, rfl⟩
        · have HZE := Lib.hid hze; clear hze
          have hzn : ¬ szw lk (left - zss.length - ((ls.take k).sum : Nat)) < 0 := by omega
          go_wp2_with (go_at_call 14; refine (szRecordS_w A' lk c' _ _ hgm (by omega) (by omega)).mono ?_; rintro e w1 ⟨rfl, rfl⟩)
          go_round
          case rel => exact ⟨k + 1, by omega, by go_num, by rw [HZE.out, HSS.out]; congr 1; omega, by have := HZE.out; rw [HSS.out]; omega⟩
          case measure => simp [intOf]; omega
      · have e2 : (ls.take k).sum = ls.sum := by rw [List.take_of_length_le (by omega)]
        rw [e2] at hsl ⊢
        clear e2
        have HF := Lib.hid (show szw (zss.length + ls.sum) left = left - zss.length - (ls.sum : Nat) by unfold szw; rw [if_pos (by omega)]; omega)
        go_wp2_with fail
        go_ret
        exact ⟨reti HF.out.symm, rfl⟩
  · have h' : left - (zss.length : Int) < 0 := by omega
    go_enter Try.func5, Try.ntmps5
    go_wp2_with fail
    go_ret
    exact ⟨reti (by unfold szw; rw [if_neg (by omega)]), rfl⟩
theorem grown_of_belowQ {w w' : World} (h : Below w.heap.size w w') (row : Option Nat) : w.grownBy w' row := ⟨h.os, h.tape, h.output, h.size, fun k hk _ => h.block k hk⟩
theorem innerq_nils (w : World) (base : Nat) (t : TypeId) : ∀ n : Nat, InnerQ w base t (List.replicate n (.slice none 0 0)) (List.replicate n [])
  | 0 => InnerQ.nil
  | n + 1 => by
    rw [List.replicate_succ', List.replicate_succ']
    exact (innerq_nils w base t n).push (zs := []) (World.ownsRow_nil w base t 2) (fun x hx => .inl (by rw [List.eq_of_mem_replicate hx]; rfl))
set_option maxRecDepth 100000 in
set_option maxHeartbeats 800000 in
theorem toRecordSS_any (A : Option Addr) (zss : List (List (Int × Int))) (c : Nat) (w : World) (hx : ReadsQQ w w.heap.size A zss) (hl : zss.length ≤ 1048576) (hs : (zss.map List.length).sum ≤ 1048576) :
    Calls Try.prog 7 #[.slice A zss.length c] w fun e w' => ∃ g, e = .returned (.slice (some ⟨g, 0, none⟩) zss.length zss.length) ∧
      OwnsQQ w' w.heap.size 24 47 (.slice (some ⟨g, 0, none⟩) zss.length zss.length) zss ∧ Below w.heap.size w w' := by
  have hm : ((zss.length : Int)).toNat = zss.length := by omega
  obtain ⟨i1, hj, hy0, hy1, hy2⟩ := info_parts (show (Try.prog.info? 24).map (fun i => (i.zero, i.size, i.bytes)) = some (some (.slice none 0 0), 1, 24) by kernel_rfl)
  have hz0' : (madeCells (Value.slice none 0 0).cells (zss.length * 1)).toList = List.replicate zss.length (.slice none 0 0) := by
    rw [Nat.mul_one]; simp [Value.cells, toList_madeCells_one]
  obtain ⟨w1, hmk, hown, hgr⟩ := run_make_full (P := Try.prog) w w.heap.size 27 24 i1 (.slice none 0 0) 1 Try.underlying27 hj hy0 hy1 .i64 .i64 zss.length (by rw [hy2]; omega) (by unfold maxLen; omega) (Nat.le_refl _)
  have hb1 : Below w.heap.size w w1 := (Below.refl _ _).grown hgr (Nat.le_refl _) (by simp)
  rw [hz0'] at hown
  clear hz0'
  have HLB : Hid (∀ k (h : k < zss.length), zss[k].length ≤ 1048576) := Lib.hid fun k h => by
    have := le_sum (ls := zss.map List.length) (i := k) (by simpa using h)
    simp at this; omega
  go_enter Try.func7, Try.ntmps7
  go_wp2_with fail
  clear hmk
  go_loopw [4] (fun i wr => ∃ (k : Nat) (vals : List Value) (yss : List (List (Int × Int))), k ≤ zss.length ∧ i = .int .i64 k ∧ Hid (yss.length = zss.length ∧ yss.take k = zss.take k ∧ yss.drop k = List.replicate (zss.length - k) []) ∧ Hid (vals.drop k = List.replicate (zss.length - k) (.slice none 0 0)) ∧
      wr.ownsRow w.heap.size 24 1 (.slice (some ⟨w.heap.size, 0, none⟩) zss.length zss.length) zss.length vals ∧ InnerQ wr w.heap.size 47 vals yss ∧ Below w.heap.size w wr) (fun i _ => zss.length - (intOf i).toNat)
  case atStart => exact ⟨0, _, List.replicate zss.length [], by omega, rfl, Lib.hid ⟨by simp, by simp, by simp⟩, Lib.hid (by simp), hown, innerq_nils _ _ _ _, hb1⟩
  case round =>
    clear hown hb1
    obtain ⟨k, vals, yss, hk, rfl, HY, HV, hown, hin, hb⟩ := hrel
    by_cases hlt : k < zss.length
    · obtain ⟨ad, A', c', rfl, hc, hr⟩ := (hx.below hb).at_ hlt
      have hvl : vals.length = zss.length := by rw [hin.len, HY.out.1]
      have hu : vals[k]? = some (.slice none 0 0) := by
        have h := congrArg (fun l => l[0]?) HV.out
        simp only [List.getElem?_drop, Nat.add_zero] at h
        rw [h, List.getElem?_replicate, if_pos (by omega)]
      have HU := Lib.hid hu
      have hlb := HLB.out k hlt
      have hrm := hr.more hb.size
      have HT := Lib.hid (toRecordS_any A' zss[k] c' wr hrm (by omega))
      have HTS := fun h1 h2 => Lib.hid (set_take_succ (ys := yss) (zs := zss) (k := k) h1 h2 hlt)
      have HST := HTS HY.out.1 HY.out.2.1
      clear hu HTS hr hrm hvl
      generalize zss[k] = zk at *
      go_wp2_with fail
      refine HT.out.mono ?_
      clear HT
      rintro e w3 ⟨g3, rfl, ho3, hb3⟩
      have hown3 := own_below hown hb3 (Nat.le_refl _)
      have c3 := (hown3.cellAt k (by omega)).trans HU.out
      have f3 := hown3.frozenAt k
      have hp2 := qq_put (k := k) (w3 := w3) hown hin (by decide) HU.out (grown_of_belowQ hb3 _) (own_base ho3 hb.size) (.inr fun j hj => (own_lt ho3 j hj).1)
      have HP2 := Lib.hid hp2; clear hp2
      have hgb := (own_lt hown w.heap.size rfl).1
      go_wp2_with fail
      go_roundw
      case rel =>
        refine ⟨k + 1, vals.set k (.slice (some ⟨g3, 0, none⟩) zk.length zk.length), yss.set k zk, by omega, by go_num, Lib.hid ⟨by simp [HY.out.1], HST.out, ?_⟩, Lib.hid ?_, HP2.out.1, HP2.out.2, (bthen hb hb3).setCell hgb _⟩
        · rw [List.drop_set_of_lt (by omega)]
          have h := congrArg (List.drop 1) HY.out.2.2
          rw [List.drop_drop, List.drop_replicate] at h
          rw [h]; congr 1
        · rw [List.drop_set_of_lt (by omega)]
          have h := congrArg (List.drop 1) HV.out
          rw [List.drop_drop, List.drop_replicate] at h
          rw [h]; congr 1
      case measure => simp [intOf]; omega
    · have e : yss = zss := take_all_eq HY.out.1 (by omega) HY.out.2.1
      rw [e] at hin
      clear e
      go_wp2_with fail
      go_ret
      exact ⟨w.heap.size, rfl, ⟨vals, hown, hin⟩, hb⟩
theorem toRecordSS_c (A : Option Addr) (zss : List (List (Int × Int))) (c : Nat) (w : World) (hx : ReadsQQ w w.heap.size A zss) (hl : zss.length + (zss.map List.length).sum ≤ 1048576) :
    Calls Try.prog 7 #[.slice A zss.length c] w fun e w' => ∃ g, e = .returned (.slice (some ⟨g, 0, none⟩) zss.length zss.length) ∧
      OwnsQQ w' w.heap.size 24 47 (.slice (some ⟨g, 0, none⟩) zss.length zss.length) zss ∧ Below w.heap.size w w' := toRecordSS_any A zss c w hx (by omega) (by omega)
theorem szRecordSS_c (A : Option Addr) (zss : List (List (Int × Int))) (c : Nat) (left : Int) (w : World) (hx : ReadsQQ w w.heap.size A zss) (hm : zss.length ≤ maxLen) (hin : ∀ zs ∈ zss, zs.length ≤ maxLen) (h0 : 0 ≤ left) (h1 : left ≤ 1048576) :
    Calls Try.prog 5 #[.slice A zss.length c, .int .i64 left] w fun e w' => e = .returned (.int .i64 (szw (zss.length + (zss.map List.length).sum) left)) ∧ Below w.heap.size w w' :=
  (szRecordSS_any A zss c left w hx hm hin h0 h1).mono fun _ _ h => ⟨h.1, h.2 ▸ Below.refl _ _⟩
end Go.Proofs.Ytifjihpnhmemgaa
