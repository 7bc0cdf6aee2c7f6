/- Permutations out of their inversion tables: the program's function. -/
import Derived.Test.YtcecdodagmdnkaaFitM
import Derived.Test.YtcecdodagmdnkaaDel
import Derived.Test.YtcecdodagmdnkaaCore
import Derived.Deep.DeepCutAuto
import Derived.IntWalk
namespace Go.Proofs.Ytcecdodagmdnkaa
open Go.RowKit
set_option linter.unusedVariables false
set_option maxRecDepth 100000 in
set_option maxHeartbeats 6400000 in
theorem FromInversionTable_any (A0 : Option Addr) (t : List Int) (c0 : Nat) (w : World) (hx : Reads w w.heap.size 1 A0 t.length (ints t)) (hl : t.length ≤ 1099511627776) :
    Calls Try.prog 16 #[.slice A0 t.length c0] w fun e w' => ∃ D d, e = .returned (.tuple #[.slice D (fitV t).length d, .bool (fitOk t)]) ∧ w'.ownsRow w.heap.size 3 1 (.slice D (fitV t).length d) (fitV t).length (ints (fitV t)) ∧ Below w.heap.size w w' := by
  by_cases h64 : t.length ≤ 64
  case neg =>
    have h' : (t.length : Int) > 64 := by omega
    rw [show fitV t = [] by simp [fitV, fitR, h64], show fitOk t = false by simp [fitOk, fitR, h64]]
    go_enter Try.func16, Try.ntmps16
    go_wp2_with fail
    exact bodyPost_ret (v := .tuple #[.slice none 0 0, .bool false]) (by simp [results, Try.results16, go_sem]) rfl ⟨none, 0, rfl, World.ownsRow_nil _ _ _ _, Below.refl _ _⟩
  have h' : ¬ (t.length : Int) > 64 := by omega
  obtain ⟨i0, hi, hz0, hz1, hz2⟩ := info_parts (show (Try.prog.info? 3).map (fun i => (i.zero, i.size, i.bytes)) = some (some (.int .i64 0), 1, 8) by kernel_rfl)
  have hi' := Lib.hid (And.intro hi (And.intro hz0 (And.intro hz1 hz2)))
  have HFR : Hid (fitR t = fitGo (upTo t.length) [] t) := Lib.hid (by rw [fitR, if_pos h64])
  have HX := Lib.hid hx
  have hO0 := (made_at (w := w) (base := w.heap.size) (g := w.heap.size) (size := 1) (e := 3) (Nat.le_refl _) rfl).alloc (.cells #[] 3)
  have hO1 := made_at (w := w.alloc (.cells #[] 3)) (base := w.heap.size) (g := w.heap.size + 1) (size := 1) (e := 3) (by simp) (by simp)
  have hB0 := alloc_ (alloc_ (Below.refl w.heap.size w) (.cells #[] 3)) (.cells #[] 3)
  clear hx
  go_enter Try.func16, Try.ntmps16
  go_wp2_with fail
  generalize hw0 : (w.alloc (.cells #[] 3)).alloc (.cells #[] 3) = w0 at *
  go_loopw [5, 17] (fun v vi wr => ∃ (k gR cR : Nat), k ≤ t.length ∧ vi = .int .i64 (k : Nat) ∧ v = .slice (some ⟨gR, 0, none⟩) k cR ∧ Below w.heap.size w wr ∧ wr.ownsRow w.heap.size 3 1 (.slice (some ⟨gR, 0, none⟩) k cR) k (ints (upTo k)) ∧ wr.ownsRow w.heap.size 3 1 (.slice (some ⟨w.heap.size + 1, 0, none⟩) 0 0) 0 [] ∧ gR ≠ w.heap.size + 1) (fun _ vi _ => t.length - (intOf vi).toNat)
  case atStart => exact ⟨0, _, 0, by omega, rfl, rfl, hB0, hO0, hO1, by omega⟩
  case round =>
    clear hO0 hO1 hB0 hw0
    obtain ⟨k, gR, cR, hk, rfl, rfl, hb, oR, oE, hne⟩ := hrel
    by_cases hlt : k < t.length
    · have hkI : (k : Int) < t.length := by omega
      go_wp2_with (at_builtin; refine wpList_push _ rfl _ _ 24 rfl w.heap.size 3 i0 _ 1 8 Try.underlying24 hi hz0 hz1 hz2 rfl (by decide) (.slice (some ⟨gR, 0, none⟩) k cR) _ _ rfl oR #[.int .i64 (k : Nat)] rfl rfl (by simp [Value.oneCell']) (by omega) (by unfold maxLen; omega) hb.size ?_; intro g1 k1 w2 hown1 hg1 hb3 hat3)
      rw [show ints (upTo k) ++ (#[Value.int .i64 (k : Nat)] : Array Value).toList = ints (upTo (k + 1)) by rw [upTo_succ]; simp [ints]] at hown1
      have oE2 := own_kept oE hg1 (by simp [Value.ownBlock]; omega)
      have hne2 : g1 ≠ w.heap.size + 1 := by
        rcases hat3 with h | h
        · have : gR = g1 := by simpa [Value.ownBlock] using h
          omega
        · have := (own_lt oE (w.heap.size + 1) rfl).2; omega
      go_roundw
      case rel => exact ⟨k + 1, g1, k1, by omega, by go_num, rfl, hb.trans hb3, hown1, oE2, hne2⟩
      case measure => simp [intOf]; omega
    · have hkI : ¬ (k : Int) < t.length := by omega
      obtain rfl : k = t.length := by omega
      clear hkI hlt hk
      go_wp2_with fail
      generalize hwg : w.heap.size + 1 = gz at *
      go_loopw [5, 6, 27] (fun v vo vi wr => ∃ (k m gR cR gO cO : Nat) (rs zs : List Int), m + k ≤ t.length ∧ t.length ≤ m + k ∧ vi = .int .i64 (k : Nat) ∧ v = .slice (some ⟨gR, 0, none⟩) m cR ∧ vo = .slice (some ⟨gO, 0, none⟩) k cO ∧ Hid (gR ≠ gO) ∧ Hid (fitGo rs zs (t.drop k) = fitGo (upTo t.length) [] t) ∧ Hid (rs.length = m) ∧ Hid (zs.length = k) ∧
        Below w.heap.size w wr ∧ wr.ownsRow w.heap.size 3 1 (.slice (some ⟨gR, 0, none⟩) m cR) m (ints rs) ∧ wr.ownsRow w.heap.size 3 1 (.slice (some ⟨gO, 0, none⟩) k cO) k (ints zs)) (fun _ _ vi _ => t.length - (intOf vi).toNat)
      case atStart => exact ⟨0, t.length, gR, cR, gz, 0, upTo t.length, [], by omega, by omega, rfl, rfl, rfl, Lib.hid hne, Lib.hid rfl, Lib.hid (upTo_len _), Lib.hid rfl, hb, oR, oE⟩
      case round =>
        clear hb oR oE hne hwg
        obtain ⟨k, m, gR, cR, gO, cO, rs, zs, hk, hk2, rfl, rfl, rfl, HNE, HG, HRL, HZL, hb, oR, oO⟩ := hrel
        by_cases hlt : k < t.length
        · obtain ⟨ad, rfl, hadl, hc⟩ := (HX.out.below hb).int hlt
          have hkI : (k : Int) < t.length := by omega
          cases hp : inB t[k] 0 ((m : Int) - 1)
          · have HS := Lib.hid (HG.out.symm.trans (fit_stop hlt (by rw [HRL.out]; exact hp)))
            have HP := Lib.hid hp
            have EV : Hid (fitV t = []) := Lib.hid (by rw [fitV, HFR.out, HS.out]; rfl)
            have EO : Hid (fitOk t = false) := Lib.hid (by rw [fitOk, HFR.out, HS.out]; rfl)
            clear hp
            generalize t[k] = z at *
            go_wp2_with (go_at_call 35; refine (in_any _ _ _ _).mono ?_; rintro e w' ⟨rfl, rfl⟩; rw [HP.out])
            exact bodyPost_ret (v := .tuple #[.slice none 0 0, .bool false]) (by simp [results, Try.results16, go_sem]) rfl ⟨none, 0, by rw [EV.out, EO.out]; rfl, by rw [EV.out]; exact World.ownsRow_nil _ _ _ _, hb⟩
          · obtain ⟨z1, z2⟩ := inB_iff.1 hp
            obtain ⟨x, hxz⟩ := Int.eq_ofNat_of_zero_le z1
            have hxl : x < m := by omega
            have hxr : x < rs.length := by rw [HRL.out]; exact hxl
            have HS := Lib.hid ((fit_step (zs := zs) hlt hxz hxr).symm.trans HG.out)
            have HP := Lib.hid (hp.symm.trans (by rw [hxz]))
            have c1 := oR.cellAt x (by omega)
            rw [ints_get hxr] at c1
            have HL1 : Hid ((rs.eraseIdx x).length = m - 1) := Lib.hid (by rw [List.length_eraseIdx_of_lt hxr, HRL.out])
            have HL2 : Hid ((zs ++ [rs[x]]).length = k + 1) := Lib.hid (by rw [List.length_append, HZL.out]; rfl)
            have HV : ∀ y, rs[x] = y → Hid (ints zs ++ (#[Value.int .i64 y] : Array Value).toList = ints (zs ++ [rs[x]])) := fun y hy => Lib.hid (by rw [← hy]; simp [ints])
            rw [hxz] at hc
            have hxmI : (x : Int) < (m : Int) := by omega
            have hwx : IntKind.i64.wrap ((x : Int) + 1) = (x : Int) + 1 := IntWalk.i64_in _ ⟨by omega, by omega⟩
            obtain ⟨y, hy⟩ : ∃ y, rs[x] = y := ⟨_, rfl⟩
            have HY := HV y hy
            rw [hy] at c1
            clear hp hy HV hxz z1 z2
            go_wp2_with (first | (go_at_call 35; refine (in_any _ _ _ _).mono ?_; rintro e w' ⟨rfl, rfl⟩; rw [← HP.out]) | (at_builtin; refine wpList_push _ rfl _ _ 24 rfl w.heap.size 3 i0 _ 1 8 Try.underlying24 hi hz0 hz1 hz2 rfl (by decide) (.slice (some ⟨gO, 0, none⟩) k cO) _ _ rfl oO #[.int .i64 y] rfl rfl (by simp [Value.oneCell']) (by omega) (by unfold maxLen; omega) hb.size ?_; intro g1 k1 w2 hown1 hg1 hb3 hat3))
            rw [HY.out] at hown1
            have hBw := hb.trans hb3
            have oR2 := own_kept oR hg1 (by simp only [Value.ownBlock]; intro e; exact HNE.out (Option.some.inj e))
            have hneg : gR ≠ g1 := by
              intro e
              rcases hat3 with h | h
              · have : gO = g1 := by simpa [Value.ownBlock] using h
                exact HNE.out (e.trans this.symm)
              · have := (own_lt oR gR rfl).2; omega
            refine (delete_any w.heap.size m cR x (some ⟨gR, 0, none⟩) rs w2 oR2 hxl).mono ?_
            rintro e w3 ⟨rfl, oR3, gr3⟩
            have oO3 := own_kept hown1 gr3 (by simp only [Value.ownBlock]; intro e; exact hneg (Option.some.inj e).symm)
            have hB3 := hBw.grown gr3 hBw.size (fun q hq => (own_lt oR2 q hq).1)
            clear hb3 hg1 hat3 hb oR oO c1 hc
            go_wp2_with fail
            go_roundw
            case rel => exact ⟨k + 1, m - 1, gR, cR, g1, k1, rs.eraseIdx x, zs ++ [rs[x]], by omega, by omega, by go_num, rfl, rfl, Lib.hid hneg, HS, HL1, HL2, hB3, oR3, oO3⟩
            case measure => simp [intOf]; omega
        · have hkI : ¬ (k : Int) < t.length := by omega
          have hkt : k = t.length := by omega
          have HS := Lib.hid (HG.out.symm.trans (fit_end (by omega)))
          have EV : Hid (fitV t = zs) := Lib.hid (by rw [fitV, HFR.out, HS.out]; rfl)
          have EO : Hid (fitOk t = true) := Lib.hid (by rw [fitOk, HFR.out, HS.out]; rfl)
          clear hkt
          go_wp2_with fail
          exact bodyPost_ret (v := .tuple #[.slice (some ⟨gO, 0, none⟩) k cO, .bool true]) (by simp [results, Try.results16, go_sem]) rfl ⟨some ⟨gO, 0, none⟩, cO, by rw [EV.out, EO.out, HZL.out], by rw [EV.out, HZL.out]; exact oO, hb⟩
end Go.Proofs.Ytcecdodagmdnkaa
