/- OptimalMergeCost. -/
import Derived.Test.YtphcfjdhichfkaaSortI
import Derived.Test.YtphcfjdhichfkaaOff
import Derived.Test.YtphcfjdhichfkaaHold
namespace Go.Proofs.Ytphcfjdhichfkaa
open Go.RowKit
set_option linter.unusedVariables false
/-- the two smallest merge, the sums as the machine adds -/
def mcL : Nat → List Int → Int → Int
  | f + 1, a :: b :: r, t => mcL f (srt (r ++ [wrap64 (a + b)])) (wrap64 (t + wrap64 (a + b)))
  | _, _, t => t
theorem mcL_short {f : Nat} {zs : List Int} {t : Int} (h : zs.length < 2) : mcL f zs t = t := by
  rcases zs with _ | ⟨a, _ | ⟨b, r⟩⟩
  · cases f <;> rfl
  · cases f <;> rfl
  · simp at h; omega
def omOk (zs : List Int) : Bool := decide (zs.length ≤ 64) && zs.all fun x => inB x 1 1000
def omV (zs : List Int) : Int := if omOk zs then mcL 64 (srt zs) 0 else 0
theorem om1_any (n : Int) (w : World) :
    Calls Try.prog 60 #[.int .i64 n] w fun e w' => e = .returned (.bool (inB n 1 1000)) ∧ w = w' := by
  go_enter Try.func60, Try.ntmps60
  go_wp2_with (go_at_call 40; refine (in_any _ _ _ _).mono ?_; rintro e w' ⟨rfl, rfl⟩)
  go_ret
  exact ⟨rfl, rfl⟩
theorem om1_pred (x : Int) (w : World) : Pred Try.prog 60 #[] w (.int .i64 x) (inB x 1 1000) :=
  fun w1 _ => (om1_any x w1).mono fun _ _ ⟨h, h'⟩ => ⟨h, h' ▸ Below.refl _ _⟩
theorem om1_plain : Plain Try.prog 60 := plain_of Try.func60 (by kernel_rfl) (by kernel_rfl)
set_option maxRecDepth 100000 in
set_option maxHeartbeats 1600000 in
theorem OptimalMergeCost_any (A0 : Option Addr) (z0 : List Int) (c0 : Nat) (w : World) (hx0 : Reads w w.heap.size 1 A0 z0.length (ints z0)) (hl0 : z0.length ≤ 1048576) :
    Calls Try.prog 28 #[.slice A0 z0.length c0] w fun e w' => e = .returned (.tuple #[.int .i64 (omV z0), .bool (omOk z0)]) ∧ Below w.heap.size w w' := by
  by_cases h64 : z0.length ≤ 64
  · have h' : ¬ (z0.length : Int) > 64 := by omega
    cases hv : z0.all fun x => inB x 1 1000
    · rw [show omV z0 = 0 from by simp [omV, omOk, hv], show omOk z0 = false from by simp [omOk, hv]]
      go_enter Try.func28, Try.ntmps28
      go_wp2_with (go_at_call 59; refine (allInts_any (fun x => inB x 1 1000) _ _ A0 z0 c0 _ hx0 (by omega) om1_plain (fun x _ => om1_pred x _)).mono ?_; rintro e w1 ⟨rfl, hb1⟩; rw [hv])
      exact bodyPost_ret (v := .tuple #[.int .i64 0, .bool false]) (by simp [results, Try.results28, go_sem]) rfl ⟨rfl, hb1⟩
    · rw [show omV z0 = mcL 64 (srt z0) 0 from by simp only [omV, omOk, hv]; simp [h64], show omOk z0 = true from by simp only [omOk, hv]; simp [h64]]
      have hsl := srt_len z0
      go_enter Try.func28, Try.ntmps28
      go_wp2_with (go_at_call 59; refine (allInts_any (fun x => inB x 1 1000) _ _ A0 z0 c0 _ hx0 (by omega) om1_plain (fun x _ => om1_pred x _)).mono ?_; rintro e w1 ⟨rfl, hb1⟩; rw [hv])
      refine (sorted_any A0 z0 c0 _ ((hx0.below hb1).more hb1.size) (by omega)).mono ?_
      rintro e w2 ⟨v2, rfl, hown, hb2⟩
      go_wp2_with fail
      go_loopw [4, 5] (fun v t wr => ∃ (zs : List Int) (x : Int) (f : Nat), t = .int .i64 x ∧ zs.length ≤ f ∧ f ≤ 64 ∧ Hid (mcL f zs x = mcL 64 (srt z0) 0) ∧ Below w.heap.size w wr ∧ wr.ownsRow w.heap.size 3 1 v zs.length (ints zs)) (fun v _ _ => (match v with | .slice _ n _ => n | _ => 0))
      case atStart => exact ⟨srt z0, 0, 64, rfl, by omega, by omega, Lib.hid rfl, bthen hb1 hb2, by rw [hsl]; exact own_base hown hb1.size⟩
      case round =>
        clear hown hb1 hb2 hsl
        obtain ⟨zs, x, f, rfl, hzf, hf, HM, hb, hown⟩ := hrel
        by_cases h2 : 2 ≤ zs.length
        · rcases zs with _ | ⟨a, _ | ⟨b, r⟩⟩
          · simp at h2
          · simp at h2
          obtain ⟨g, c, rfl, hg, hgl, hnc, hcm⟩ := own_some hown (by simp)
          obtain ⟨f, rfl⟩ : ∃ q, f = q + 1 := ⟨f - 1, by omega⟩
          have k0 := hown.cellAt 0 (by simp)
          have k1 := hown.cellAt 1 (by simp)
          simp [ints] at k0 k1
          have hrl : (a :: b :: r).length = r.length + 2 := rfl
          have HR := Lib.hid hrl
          rw [hrl] at hown hzf hnc ⊢
          clear hrl h2
          have hI : (1 : Int) < ((r.length + 2 : Nat) : Int) := by omega
          have hI0 : (0 : Int) < ((r.length + 2 : Nat) : Int) := by omega
          go_wp2_with fail
          go_quiet (fail)
          have hqn : ((wr.drewN nq).alloc (.cells #[.int .i64 (wrap64 (a + b))] 3)).cell? ⟨wr.heap.size, 0, none⟩ = some (.int .i64 (wrap64 (a + b))) := (Blk.new (wr.drewN nq) 3 #[.int .i64 (wrap64 (a + b))]).cell 0
          have hbn : Below w.heap.size w ((wr.drewN nq).alloc (.cells #[.int .i64 (wrap64 (a + b))] 3)) := alloc_ (w' := wr.drewN nq) (below_drewN hb nq) (.cells #[.int .i64 (wrap64 (a + b))] 3)
          have hon := World.ownsRow.alloc (w := wr.drewN nq) hown (.cells #[.int .i64 (wrap64 (a + b))] 3)
          go_wp2_with (at_builtin; go_loud (refine wpList_tail_push _ rfl _ _ rfl w.heap.size g 2 (r.length + 2) c (a :: b :: r) r hon hbn.size r.length rfl rfl hnc rfl _ _ (wrap64 (a + b)) rfl hqn (by omega) ?_; intro A4 c4 w4 r4 hb4 hl4))
          all_goals (
            have hb5 := hbn.trans hb4
            have hc := sorted_any A4 (r ++ [wrap64 (a + b)]) c4 w4 r4 (by omega)
            rw [hl4] at hc
            refine hc.mono ?_
            clear hc
            rintro e w5 ⟨v5, rfl, hown5, hb6⟩
            obtain ⟨A5, c5, rfl⟩ := own_slice hown5
            have hsl : (srt (r ++ [wrap64 (a + b)])).length = r.length + 1 := by rw [srt_len, hl4]
            have hown6 := own_base hown5 hb5.size
            rw [← hsl] at hown6 ⊢
            have HSL := Lib.hid hsl; clear hsl
            go_wp2_with fail
            go_roundw
            case rel => exact ⟨_, _, f, rfl, by have := HSL.out; omega, by omega, HM, bthen hb5 hb6, hown6⟩
            case measure => have := HSL.out; simp; omega)
        · have hs := mcL_short (f := f) (t := x) (show zs.length < 2 by omega)
          have hI : ¬ (1 : Int) < (zs.length : Int) := by omega
          obtain ⟨G, g, rfl⟩ := own_slice hown
          have HM2 := HM.out
          rw [hs] at HM2
          subst HM2
          go_wp2_with fail
          exact bodyPost_ret (v := .tuple #[.int .i64 _, .bool true]) (by simp [results, Try.results28, go_sem]) rfl ⟨rfl, hb⟩
  · have h' : (z0.length : Int) > 64 := by omega
    rw [show omV z0 = 0 from by simp [omV, omOk, h64], show omOk z0 = false from by simp [omOk, h64]]
    go_enter Try.func28, Try.ntmps28
    go_wp2_with fail
    exact bodyPost_ret (v := .tuple #[.int .i64 0, .bool false]) (by simp [results, Try.results28, go_sem]) rfl ⟨rfl, Below.refl _ _⟩
end Go.Proofs.Ytphcfjdhichfkaa
