/- AscendingRuns: the program's side. -/
import Derived.Test.YtecbagdljgnloaaNest
namespace Go.Proofs.Ytecbagdljgnloaa
open Go.RowKit
set_option linter.unusedVariables false
theorem add_zero_ (a : Addr) : a.add 0 = a := by simp [Addr.add]
theorem add_succ_ (a : Addr) (j : Nat) : a.add (j + 1) = ⟨a.block, a.off + (j + 1), none⟩ := by simp [Addr.add]
/-- the ascending runs of the first k elements -/
def arun (zs : List Int) : Nat → List (List Int)
  | 0 => []
  | k + 1 =>
    let m := if k = 0 ∨ zs[k]?.getD 0 < zs[k - 1]?.getD 0 then arun zs k ++ [[]] else arun zs k
    m.set (m.length - 1) ((m[m.length - 1]?.getD []) ++ [zs[k]?.getD 0])
theorem arun_new {zs : List Int} {k : Nat} (h : k = 0 ∨ zs[k]?.getD 0 < zs[k - 1]?.getD 0) : arun zs (k + 1) = arun zs k ++ [[zs[k]?.getD 0]] := by
  simp [arun, h]
theorem arun_old {zs : List Int} {k : Nat} (h : ¬ (k = 0 ∨ zs[k]?.getD 0 < zs[k - 1]?.getD 0)) : arun zs (k + 1) = (arun zs k).set ((arun zs k).length - 1) (((arun zs k)[(arun zs k).length - 1]?.getD []) ++ [zs[k]?.getD 0]) := by
  simp only [arun, if_neg h]
theorem arun_pos (zs : List Int) : ∀ k : Nat, 0 < k → 0 < (arun zs k).length
  | 0, h => by omega
  | k + 1, _ => by
    by_cases h : k = 0 ∨ zs[k]?.getD 0 < zs[k - 1]?.getD 0
    · rw [arun_new h]; simp
    · rw [arun_old h, List.length_set]
      exact arun_pos zs k (by omega)
theorem sum_set_snoc (l : List (List Int)) (i : Nat) (hi : i < l.length) (x : Int) : ((l.set i (l[i]?.getD [] ++ [x])).map List.length).sum = (l.map List.length).sum + 1 := by
  induction l generalizing i with
  | nil => simp at hi
  | cons a r ih =>
    cases i with
    | zero => simp; omega
    | succ i =>
      have := ih i (by simpa using hi)
      simp at this ⊢
      omega
theorem arun_sum (zs : List Int) : ∀ k : Nat, ((arun zs k).map List.length).sum = k ∧ (arun zs k).length ≤ k
  | 0 => by simp [arun]
  | k + 1 => by
    have ih := arun_sum zs k
    by_cases h : k = 0 ∨ zs[k]?.getD 0 < zs[k - 1]?.getD 0
    · rw [arun_new h]; simp [ih.1]; exact ih.2
    · rw [arun_old h, List.length_set]
      have hp := arun_pos zs k (by omega)
      rw [sum_set_snoc _ _ (by omega), ih.1]
      exact ⟨rfl, by omega⟩
def arV (zs : List Int) : List (List Int) := if vList zs then arun zs zs.length else []
theorem ar_len (zs : List Int) : (arV zs).length ≤ 64 ∧ ((arV zs).map List.length).sum ≤ 64 := by
  unfold arV
  split
  · rename_i h
    have h64 : zs.length ≤ 64 := by simp [vList] at h; exact h.1
    have := arun_sum zs zs.length
    omega
  · simp
set_option maxRecDepth 100000 in
set_option maxHeartbeats 3200000 in
theorem AscendingRuns_any (A0 : Option Addr) (z0 : List Int) (c0 : Nat) (w : World) (hx0 : Reads w w.heap.size 1 A0 z0.length (ints z0)) (hl0 : z0.length ≤ 1048576) :
    Calls Try.prog 22 #[.slice A0 z0.length c0] w fun e w' => ∃ A c, e = .returned (.tuple #[.slice A (arV z0).length c, .bool (vList z0)]) ∧
      OwnsRR w' w.heap.size 22 3 (.slice A (arV z0).length c) (arV z0) ∧ Below w.heap.size w w' := by
  cases hv : vList z0
  · rw [show arV z0 = [] from by simp [arV, hv]]
    go_enter Try.func22, Try.ntmps22
    go_wp2_with (go_at_call 36; refine (IsValidList_any A0 z0 c0 _ hx0 (by omega)).mono ?_; rintro e w1 ⟨rfl, hb1⟩; rw [hv])
    exact bodyPost_ret (v := .tuple #[.slice none 0 0, .bool false]) (by simp [results, Try.results22, go_sem]) rfl ⟨none, 0, rfl, ⟨[], World.ownsRow_nil _ _ _ _, Inner.nil⟩, hb1⟩
  · have h64 : z0.length ≤ 64 := by simp [vList] at hv; exact hv.1
    have HV := Lib.hid hv
    have HAV := Lib.hid (show arV z0 = arun z0 z0.length from by simp [arV, hv])
    obtain ⟨i0, hi, hz0, hz1, hz2⟩ := info_parts (show (Try.prog.info? 3).map (fun i => (i.zero, i.size, i.bytes)) = some (some (.int .i64 0), 1, 8) by kernel_rfl)
    obtain ⟨i1, hj, hy0, hy1, hy2⟩ := info_parts (show (Try.prog.info? 22).map (fun i => (i.zero, i.size, i.bytes)) = some (some (.slice none 0 0), 1, 24) by kernel_rfl)
    go_enter Try.func22, Try.ntmps22
    go_wp2_with (go_at_call 36; refine (IsValidList_any A0 z0 c0 _ hx0 (by omega)).mono ?_; rintro e w1 ⟨rfl, hb1⟩; rw [hv])
    clear hv
    have hbA := alloc_ hb1 (.cells #[] 22)
    have hoA := World.ownsRow_made (base := w.heap.size) (size := 1) (e := 22) w1 #[] 0 hb1.size (by simp) (by simp)
    go_loopw [4, 13] (fun o i wr => ∃ (k : Nat) (acc : List (List Int)) (vals : List Value), k ≤ z0.length ∧ i = .int .i64 k ∧ Hid (acc = arun z0 k) ∧ wr.ownsRow w.heap.size 22 1 o acc.length vals ∧ Inner wr w.heap.size 3 vals acc ∧ Below w.heap.size w wr) (fun _ i _ => z0.length - (intOf i).toNat)
    case atStart => exact ⟨0, [], [], by omega, rfl, Lib.hid rfl, hoA, Inner.nil, hbA⟩
    case round =>
      clear hoA hbA hb1
      obtain ⟨k, acc, vals, hk, rfl, HA, hown, hin, hb⟩ := hrel
      by_cases hlt : k < z0.length
      · have hxr := (hx0.below hb)
        obtain ⟨ad, rfl, -, hc⟩ := hxr.int hlt
        have hal : acc.length ≤ k := by rw [HA.out]; exact (arun_sum z0 k).2
        have HSA : Hid ((acc.map List.length).sum ≤ 64) := Lib.hid (by rw [HA.out, (arun_sum z0 k).1]; omega)
        rcases k with _ | q
        · have HN := Lib.hid (arun_new (zs := z0) (k := 0) (.inl rfl))
          rw [add_zero_] at hc
          rw [List.getElem?_eq_getElem hlt, Option.getD_some] at HN
          obtain ⟨Ao, co, rfl⟩ := own_slice hown
          have hE : (wr.alloc (.cells #[] 3)).ownsRow w.heap.size 3 1 (.slice (some ⟨wr.heap.size, 0, none⟩) 0 0) 0 [] := made_at hb.size rfl
          have hbE := alloc_ (alloc_ hb (.cells #[] 3)) (.cells #[.slice (some ⟨wr.heap.size, 0, none⟩) 0 0] 22)
          have hacl : acc.length ≤ 64 := by omega
          go_upto_region 9 with (at_builtin; go_loud (refine wpList_push' _ rfl _ _ 29 rfl w.heap.size 22 i1 _ 1 24 Try.underlying29 hj hy0 hy1 hy2 rfl (by decide) (.slice Ao acc.length co) _ vals rfl (World.ownsRow.alloc (World.ownsRow.alloc hown _) _) #[.slice (some ⟨wr.heap.size, 0, none⟩) 0 0] (wr.heap.size + 1) rfl (blk_new_at (by simp)) rfl (by simp [Value.oneCell']) (by omega) (by unfold maxLen; omega) hbE.size ?_; intro g1 d1 w3 hown3 hg3 hb3 hat3))
          have hin3 := ((hin.alloc (.cells #[] 3)).alloc (.cells #[.slice (some ⟨wr.heap.size, 0, none⟩) 0 0] 22)).add (zs := []) (World.ownsRow.alloc (World.ownsRow.alloc hown _) _) (by decide) (World.ownsRow.alloc hE _) (hin.fresh (fun q hq => by have h2 : wr.heap.size = q := Option.some.inj hq; omega)) hg3
          have hbn := hbE.trans hb3
          have HG : Hid (∀ ys, (acc ++ [[]])[acc.length]? = some ys → (acc ++ [[]]).set acc.length (ys ++ [z0[0]]) = arun z0 (0 + 1)) := Lib.hid (by intro ys hys; simp at hys; subst hys; rw [HN.out, ← HA.out]; simp)
          have HP : Hid ((acc ++ [([] : List Int)]).length = acc.length + 1) := Lib.hid (by simp)
          have HSM : Hid (((acc ++ [([] : List Int)]).map List.length).sum ≤ 64) := Lib.hid (by have := HSA.out; simp at this ⊢; exact this)
          clear hE hbE hown hin hb hg3 hb3 hat3
          have hown := hown3; clear hown3
          have hin := hin3; clear hin3
          have hb := hbn; clear hbn
          replace hown : w3.ownsRow w.heap.size 22 1 (.slice (some ⟨g1, 0, none⟩) (acc.length + 1) d1) (acc.length + 1) (vals ++ [.slice (some ⟨wr.heap.size, 0, none⟩) 0 0]) := hown
          generalize acc.length = p at *
          generalize acc ++ [[]] = accp at *
          generalize vals ++ [Value.slice (some ⟨wr.heap.size, 0, none⟩) 0 0] = valp at *

          obtain ⟨ys, hys⟩ : ∃ ys, accp[p]? = some ys := ⟨_, List.getElem?_eq_getElem (by have := HP.out; omega)⟩
          have hvl : valp.length = p + 1 := by rw [hin.len]; exact HP.out
          have hpv : p < valp.length := by omega
          have c1 := hown.cellAt p (by omega)
          have hu := List.getElem?_eq_getElem hpv
          rw [hu] at c1
          have ho := hin.own p _ ys hu hys
          have hyl : ys.length ≤ 64 := by
            obtain ⟨h1, h2⟩ := List.getElem?_eq_some_iff.1 hys
            have h3 := le_sum (ls := accp.map List.length) (i := p) (by simpa using h1)
            simp [h2] at h3
            have := HSM.out
            omega
          generalize valp[p] = U at *
          obtain ⟨Ai, ci, rfl⟩ := own_slice ho
          have HF := HG.out ys hys
          have HFF := Lib.hid HF; clear HF
          have HYS := Lib.hid hys; clear hys
          have HU := Lib.hid hu; clear hu hvl hpv
          have hbc := alloc_ hb (.cells #[.int .i64 z0[0]] 3)
          have hgl := own_lt hown g1 rfl
          go_wp2_with (at_builtin; go_loud (refine wpList_push' _ rfl _ _ 22 rfl w.heap.size 3 i0 _ 1 8 Try.underlying22 hi hz0 hz1 hz2 rfl (by decide) (.slice Ai ys.length ci) _ (ints ys) rfl (World.ownsRow.alloc ho _) #[.int .i64 z0[0]] w3.heap.size rfl (Blk.new _ _ _) rfl (by simp [Value.oneCell']) (by omega) (by unfold maxLen; omega) hbc.size ?_; intro g5 d5 w5 hown5 hg5 hb5 hat5; have hout5 := (World.ownsRow.alloc hown (.cells #[.int .i64 z0[0]] 3)).kept hg5 (own_ne_type (World.ownsRow.alloc hown (.cells #[.int .i64 z0[0]] 3)) (World.ownsRow.alloc ho (.cells #[.int .i64 z0[0]] 3)) (by decide)); have c5 := (hout5.cellAt p (by omega)).trans HU.out; have f5 := hout5.frozenAt p))
          all_goals
            have hr3 : w5.ownsRow w.heap.size 3 1 (.slice (some ⟨g5, 0, none⟩) (ys.length + 1) d5) (ys ++ [z0[0]]).length (ints (ys ++ [z0[0]])) := by simpa [ints] using hown5
            have hbn := hbc.trans hb5
            have hp2 := rr_put (k := p) (World.ownsRow.alloc hown (.cells #[.int .i64 z0[0]] 3)) (hin.alloc (.cells #[.int .i64 z0[0]] 3)) (by decide) HU.out hg5 hr3 (by
              rcases hat5 with h | h
              · exact .inl h.symm
              · exact .inr fun j hj => by cases hj; exact h)
            have HP2 := Lib.hid hp2; clear hp2
            have HLN : Hid ((accp.set p (ys ++ [z0[0]])).length = p + 1) := Lib.hid (by rw [List.length_set]; exact HP.out)
            go_wp2_with fail
            go_roundw
            case rel => exact ⟨0 + 1, accp.set p (ys ++ [z0[0]]), valp.set p (.slice (some ⟨g5, 0, none⟩) (ys.length + 1) d5), by omega, by go_num, HFF, by rw [HLN.out]; exact HP2.out.1, HP2.out.2, hbn.setCell hgl.1 _⟩
            case measure => simp [intOf]; omega
        · obtain ⟨bd, hbd, -, hc1⟩ := hxr.int (show q < z0.length by omega)
          cases hbd
          rw [add_succ_] at hc
          have ecast : ((q + 1 : Nat) : Int) = (q : Int) + 1 := by omega
          rw [ecast]
          have HEC := Lib.hid ecast; clear ecast
          have ew : IntKind.i64.wrap (q : Int) = q := IntWalk.i64_in _ (by omega)
          have e0 : (0 : Int) ≤ (q : Int) + 1 := by omega
          have e1 : ((q : Int) + 1).toNat = q + 1 := by omega
          have j0 : (0 : Int) ≤ (q : Int) := by omega
          have j1 : (q : Int) < z0.length := by omega
          have j2 : (q : Int) + 1 < z0.length := by omega
          have j3 : ((q : Int) + 1 == 0) = false := by simp; omega
          by_cases hlv : z0[q + 1] < z0[q]
          · have HN := Lib.hid (arun_new (zs := z0) (k := q + 1) (.inr (by rw [Nat.add_sub_cancel, List.getElem?_eq_getElem hlt, List.getElem?_eq_getElem (show q < z0.length by omega)]; exact hlv)))
            rw [List.getElem?_eq_getElem hlt, Option.getD_some] at HN
            obtain ⟨Ao, co, rfl⟩ := own_slice hown
            have hE : (wr.alloc (.cells #[] 3)).ownsRow w.heap.size 3 1 (.slice (some ⟨wr.heap.size, 0, none⟩) 0 0) 0 [] := made_at hb.size rfl
            have hbE := alloc_ (alloc_ hb (.cells #[] 3)) (.cells #[.slice (some ⟨wr.heap.size, 0, none⟩) 0 0] 22)
            have hacl : acc.length ≤ 64 := by omega
            go_upto_region 9 with (at_builtin; go_loud (refine wpList_push' _ rfl _ _ 29 rfl w.heap.size 22 i1 _ 1 24 Try.underlying29 hj hy0 hy1 hy2 rfl (by decide) (.slice Ao acc.length co) _ vals rfl (World.ownsRow.alloc (World.ownsRow.alloc hown _) _) #[.slice (some ⟨wr.heap.size, 0, none⟩) 0 0] (wr.heap.size + 1) rfl (blk_new_at (by simp)) rfl (by simp [Value.oneCell']) (by omega) (by unfold maxLen; omega) hbE.size ?_; intro g1 d1 w3 hown3 hg3 hb3 hat3))
            have hin3 := ((hin.alloc (.cells #[] 3)).alloc (.cells #[.slice (some ⟨wr.heap.size, 0, none⟩) 0 0] 22)).add (zs := []) (World.ownsRow.alloc (World.ownsRow.alloc hown _) _) (by decide) (World.ownsRow.alloc hE _) (hin.fresh (fun q hq => by have h2 : wr.heap.size = q := Option.some.inj hq; omega)) hg3
            have hbn := hbE.trans hb3
            have HG : Hid (∀ ys, (acc ++ [[]])[acc.length]? = some ys → (acc ++ [[]]).set acc.length (ys ++ [z0[q + 1]]) = arun z0 (q + 1 + 1)) := Lib.hid (by intro ys hys; simp at hys; subst hys; rw [HN.out, ← HA.out]; simp)
            have HP : Hid ((acc ++ [([] : List Int)]).length = acc.length + 1) := Lib.hid (by simp)
            have HSM : Hid (((acc ++ [([] : List Int)]).map List.length).sum ≤ 64) := Lib.hid (by have := HSA.out; simp at this ⊢; exact this)
            clear hE hbE hown hin hb hg3 hb3 hat3
            have hown := hown3; clear hown3
            have hin := hin3; clear hin3
            have hb := hbn; clear hbn
            replace hown : w3.ownsRow w.heap.size 22 1 (.slice (some ⟨g1, 0, none⟩) (acc.length + 1) d1) (acc.length + 1) (vals ++ [.slice (some ⟨wr.heap.size, 0, none⟩) 0 0]) := hown
            generalize acc.length = p at *
            generalize acc ++ [[]] = accp at *
            generalize vals ++ [Value.slice (some ⟨wr.heap.size, 0, none⟩) 0 0] = valp at *

            obtain ⟨ys, hys⟩ : ∃ ys, accp[p]? = some ys := ⟨_, List.getElem?_eq_getElem (by have := HP.out; omega)⟩
            have hvl : valp.length = p + 1 := by rw [hin.len]; exact HP.out
            have hpv : p < valp.length := by omega
            have c1 := hown.cellAt p (by omega)
            have hu := List.getElem?_eq_getElem hpv
            rw [hu] at c1
            have ho := hin.own p _ ys hu hys
            have hyl : ys.length ≤ 64 := by
              obtain ⟨h1, h2⟩ := List.getElem?_eq_some_iff.1 hys
              have h3 := le_sum (ls := accp.map List.length) (i := p) (by simpa using h1)
              simp [h2] at h3
              have := HSM.out
              omega
            generalize valp[p] = U at *
            obtain ⟨Ai, ci, rfl⟩ := own_slice ho
            have HF := HG.out ys hys
            have HFF := Lib.hid HF; clear HF
            have HYS := Lib.hid hys; clear hys
            have HU := Lib.hid hu; clear hu hvl hpv
            have hbc := alloc_ hb (.cells #[.int .i64 z0[q + 1]] 3)
            have hgl := own_lt hown g1 rfl
            go_wp2_with (at_builtin; go_loud (refine wpList_push' _ rfl _ _ 22 rfl w.heap.size 3 i0 _ 1 8 Try.underlying22 hi hz0 hz1 hz2 rfl (by decide) (.slice Ai ys.length ci) _ (ints ys) rfl (World.ownsRow.alloc ho _) #[.int .i64 z0[q + 1]] w3.heap.size rfl (Blk.new _ _ _) rfl (by simp [Value.oneCell']) (by omega) (by unfold maxLen; omega) hbc.size ?_; intro g5 d5 w5 hown5 hg5 hb5 hat5; have hout5 := (World.ownsRow.alloc hown (.cells #[.int .i64 z0[q + 1]] 3)).kept hg5 (own_ne_type (World.ownsRow.alloc hown (.cells #[.int .i64 z0[q + 1]] 3)) (World.ownsRow.alloc ho (.cells #[.int .i64 z0[q + 1]] 3)) (by decide)); have c5 := (hout5.cellAt p (by omega)).trans HU.out; have f5 := hout5.frozenAt p))
            all_goals
              have hr3 : w5.ownsRow w.heap.size 3 1 (.slice (some ⟨g5, 0, none⟩) (ys.length + 1) d5) (ys ++ [z0[q + 1]]).length (ints (ys ++ [z0[q + 1]])) := by simpa [ints] using hown5
              have hbn := hbc.trans hb5
              have hp2 := rr_put (k := p) (World.ownsRow.alloc hown (.cells #[.int .i64 z0[q + 1]] 3)) (hin.alloc (.cells #[.int .i64 z0[q + 1]] 3)) (by decide) HU.out hg5 hr3 (by
                rcases hat5 with h | h
                · exact .inl h.symm
                · exact .inr fun j hj => by cases hj; exact h)
              have HP2 := Lib.hid hp2; clear hp2
              have HLN : Hid ((accp.set p (ys ++ [z0[q + 1]])).length = p + 1) := Lib.hid (by rw [List.length_set]; exact HP.out)
              go_wp2_with fail
              go_roundw
              case rel => exact ⟨q + 1 + 1, accp.set p (ys ++ [z0[q + 1]]), valp.set p (.slice (some ⟨g5, 0, none⟩) (ys.length + 1) d5), by omega, by go_num, HFF, by rw [HLN.out]; exact HP2.out.1, HP2.out.2, hbn.setCell hgl.1 _⟩
              case measure => simp [intOf]; omega
          · have HN := Lib.hid (arun_old (zs := z0) (k := q + 1) (by rw [Nat.add_sub_cancel, List.getElem?_eq_getElem hlt, List.getElem?_eq_getElem (show q < z0.length by omega)]; intro h; rcases h with h | h <;> first | omega | exact hlv h))
            rw [List.getElem?_eq_getElem hlt, Option.getD_some] at HN
            have hacp : 0 < acc.length := by rw [HA.out]; exact arun_pos z0 _ (by omega)
            obtain ⟨g1, d1, rfl, hg1b, hg1l, -, -⟩ := own_some hown hacp
            obtain ⟨p, hp⟩ : ∃ p, acc.length = p + 1 := ⟨acc.length - 1, by omega⟩
            have HP := Lib.hid hp
            have HG : Hid (∀ ys, acc[p]? = some ys → acc.set p (ys ++ [z0[q + 1]]) = arun z0 (q + 1 + 1)) := Lib.hid (by intro ys hys; rw [HN.out, ← HA.out, hp]; simp [hys])
            have HSM := HSA
            rw [hp] at hown hal ⊢
            clear hp hacp
            generalize acc = accp at *
            generalize vals = valp at *

            obtain ⟨ys, hys⟩ : ∃ ys, accp[p]? = some ys := ⟨_, List.getElem?_eq_getElem (by have := HP.out; omega)⟩
            have hvl : valp.length = p + 1 := by rw [hin.len]; exact HP.out
            have hpv : p < valp.length := by omega
            have c1 := hown.cellAt p (by omega)
            have hu := List.getElem?_eq_getElem hpv
            rw [hu] at c1
            have ho := hin.own p _ ys hu hys
            have hyl : ys.length ≤ 64 := by
              obtain ⟨h1, h2⟩ := List.getElem?_eq_some_iff.1 hys
              have h3 := le_sum (ls := accp.map List.length) (i := p) (by simpa using h1)
              simp [h2] at h3
              have := HSM.out
              omega
            generalize valp[p] = U at *
            obtain ⟨Ai, ci, rfl⟩ := own_slice ho
            have HF := HG.out ys hys
            have HFF := Lib.hid HF; clear HF
            have HYS := Lib.hid hys; clear hys
            have HU := Lib.hid hu; clear hu hvl hpv
            have hbc := alloc_ hb (.cells #[.int .i64 z0[q + 1]] 3)
            have hgl := own_lt hown g1 rfl
            go_wp2_with (at_builtin; go_loud (refine wpList_push' _ rfl _ _ 22 rfl w.heap.size 3 i0 _ 1 8 Try.underlying22 hi hz0 hz1 hz2 rfl (by decide) (.slice Ai ys.length ci) _ (ints ys) rfl (World.ownsRow.alloc ho _) #[.int .i64 z0[q + 1]] wr.heap.size rfl (Blk.new _ _ _) rfl (by simp [Value.oneCell']) (by omega) (by unfold maxLen; omega) hbc.size ?_; intro g5 d5 w5 hown5 hg5 hb5 hat5; have hout5 := (World.ownsRow.alloc hown (.cells #[.int .i64 z0[q + 1]] 3)).kept hg5 (own_ne_type (World.ownsRow.alloc hown (.cells #[.int .i64 z0[q + 1]] 3)) (World.ownsRow.alloc ho (.cells #[.int .i64 z0[q + 1]] 3)) (by decide)); have c5 := (hout5.cellAt p (by omega)).trans HU.out; have f5 := hout5.frozenAt p))
            all_goals
              have hr3 : w5.ownsRow w.heap.size 3 1 (.slice (some ⟨g5, 0, none⟩) (ys.length + 1) d5) (ys ++ [z0[q + 1]]).length (ints (ys ++ [z0[q + 1]])) := by simpa [ints] using hown5
              have hbn := hbc.trans hb5
              have hp2 := rr_put (k := p) (World.ownsRow.alloc hown (.cells #[.int .i64 z0[q + 1]] 3)) (hin.alloc (.cells #[.int .i64 z0[q + 1]] 3)) (by decide) HU.out hg5 hr3 (by
                rcases hat5 with h | h
                · exact .inl h.symm
                · exact .inr fun j hj => by cases hj; exact h)
              have HP2 := Lib.hid hp2; clear hp2
              have HLN : Hid ((accp.set p (ys ++ [z0[q + 1]])).length = p + 1) := Lib.hid (by rw [List.length_set]; exact HP.out)
              go_wp2_with fail
              go_roundw
              case rel => exact ⟨q + 1 + 1, accp.set p (ys ++ [z0[q + 1]]), valp.set p (.slice (some ⟨g5, 0, none⟩) (ys.length + 1) d5), by omega, by go_num, HFF, by rw [HLN.out]; exact HP2.out.1, HP2.out.2, hbn.setCell hgl.1 _⟩
              case measure => simp [intOf]; omega
      · have hke : k = z0.length := by omega
        have hac := HA.out
        rw [hke, ← HAV.out] at hac
        have HC := Lib.hid hac
        clear hac
        obtain ⟨A, c, rfl⟩ := own_slice hown
        go_wp2_with fail
        exact bodyPost_ret (v := .tuple #[.slice A acc.length c, .bool true]) (by simp [results, Try.results22, go_sem]) rfl ⟨A, c, by rw [← HC.out], by rw [← HC.out]; exact ⟨vals, hown, hin⟩, hb⟩
end Go.Proofs.Ytecbagdljgnloaa
