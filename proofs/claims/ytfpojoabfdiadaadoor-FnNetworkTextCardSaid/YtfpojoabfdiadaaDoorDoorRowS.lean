/- From a walk to the statement of a row that lists laid variables, the first world's shape kept; what the listed variables give. -/
import Derived.Test.YtfpojoabfdiadaaDoorDoorRow
import Derived.Test.YtfpojoabfdiadaaDoorParI
import Derived.Stop.LaidErr
import Derived.Lib.LaidTab
import Derived.HandedShaped
namespace Go.Proofs.YtfpojoabfdiadaaDoor
open Go.ChangeShapes Go.WideShapes Go.ChangeAt Go.RowKit
set_option linter.unusedVariables false
set_option maxRecDepth 100000
theorem law_lifted_shaped {C : Checked} {os : Os} {f : FuncId} {fn : Func} {s : ChangeSpec} {H : Type} {enc : TypeId × Value → H} {conds : List PathCond} {apart fresh handsOn again : Bool} {tys : Array TypeId} {tb : TypeId} {X : World → Prop}
    (hX : ∀ (w w' : World), w.heap = w'.heap → X w → X w')
    (hown : ownKnob C.prog.godebug = none) (started : os.Started) (noInit : C.prog.inits.idxOf? f = none) (hfn : C.prog.funcs[f]? = some fn)
    (witness : ∃ (w : World) (tape : Tape) (i : Input), w.os = os ∧ (w.forCall tape i).Shaped C.prog ∧ i.vars = [] ∧ Input.okWide C.prog (w.forCall tape i) .any w.heap.size f i ∧
      ((s.pre enc C.prog fn conds apart (w.forCall tape i).memory i.args ∧ X (w.forCall tape i).memory) ∧ sizedMet enc C.prog fn (OpenSpec.ofChange s) apart (w.forCall tape i).memory i.args) ∧ Assume.holds {} C.prog (lone (Frame.enter C.prog f i.args .normal) [] (w.forCall tape i)))
    (hparams : fn.params = tys) (hvars : s.vars = []) (hspec : ∀ ds : List (DataW H), ds.length = tys.toList.length → s.fn H ds = { results := [.lit (.bool true)], args := ds })
    (hres : fn.resultTypes = #[tb]) (htb : C.prog.underlying tb = some .bool) (hl : laidOutB C.prog = true) (hrd : (tys.toList.all fun t => C.prog.readableRec t && decide (t < C.prog.types.size)) = true)
    (walk : WalksX C.prog (fun W => X W ∧ W.ShapedOpen C.prog) f tys) :
    ReturnsInHanded {} C os f .any (fun w args => (s.pre enc C.prog fn conds apart w args ∧ X w) ∧ sizedMet enc C.prog fn (OpenSpec.ofChange s) apart w args) (s.post enc C.prog fn apart fresh handsOn again) := by
  refine returnsInHanded_of_calls hown started noInit witness ?_
  intro w tape i _ hshape _ hok hpre _
  obtain ⟨_, _, _, fn2, hfn2, _, _, _, _, hval⟩ := hok
  obtain rfl := Option.some.inj (hfn2.symm.trans hfn)
  obtain ⟨⟨⟨ds, gs, before, hw0, hc⟩, hx⟩, hz⟩ := hpre
  have hW := DataW.Whole.of_heap (w' := w.forCall tape i) (by rfl) hw0
  have hXW : X (w.forCall tape i) := hX _ _ (by rfl) hx
  generalize w.forCall tape i = W at *
  have hW' := hW
  obtain ⟨p, q, hA, hV, rfl, hfz, hnd⟩ := hW
  rw [hparams] at hA hval
  rw [hvars] at hV
  obtain ⟨rfl, rfl⟩ := trodVars_none hV
  have hlen := trodAll_len hA
  have hsp := hspec ds hlen
  refine (walk H enc W _ i.args ds p ⟨hXW, hshape⟩ hval hA).mono fun e W' ⟨he, hb⟩ => ?_
  subst he
  refine ChangeSpec.post_blind (post_of_below (pa := p) (pv := []) hW' ?_ ?_ ?_ (by simp) hb ?_)
  · intro b sp hd
    rw [List.append_nil, hsp, hres]
    exact trodAll_mk1 (shut_bool htb true)
  · intro sp hs
    rw [List.append_nil, hsp, hparams]
    exact below_trodAll hl hb hrd hA (fun x hx => hW'.lt x (List.mem_append_left _ hx)) sp (fun x hx => hs x (List.mem_append_left _ hx))
  · intro sp hs
    rw [List.append_nil, hsp, hvars]
    exact rfl
  · exact ok_one hres rfl (okWide_bool_mk htb true)
theorem rowErr : ∀ u, Tryd.prog.typeName? 3 u = some "*errors.errorString" → u = 122 := fun u h =>
  typeName_ptr_named (nm := "errors.errorString") (by kernel_rfl) (by kernel_rfl) (by decide) u h
/-- the listed variables and the world's shape give what the walks ask -/
theorem door_of_laid {W : World} (h : laidMetH Tryd.prog Rows.fnExactParseNetworkRow.laid W) (hs : W.ShapedOpen Tryd.prog) : DoorW W := by
  rw [MakeChecks.laidMetH_plain _ _ _ (by kernel_rfl)] at h
  have h3 : laidMet Tryd.prog (("internal/strconv.uint64pow10", Lib.tabData .u64 Lib.pow10Tab) :: _) W := (laidMet.tail (laidMet.tail h))
  have h6 := laidMet.tail (laidMet.tail (laidMet.tail h3))
  refine ⟨Tryd.laysM145.s1_3 W hs, ?_, ?_⟩
  · obtain ⟨a0, s0, hv0, _, _, _⟩ := laid_sentinel h6 (g := 2) (by kernel_rfl) (by kernel_rfl) Tryd.underlying73 rowErr Tryd.underlying122 Tryd.underlying124 rfl rfl Tryd.underlying9 (by kernel_rfl) (by kernel_rfl)
    have := World.var?_cell (show Tryd.prog.globalNamed "strconv.ErrSyntax" = some 2 by kernel_rfl) hv0 0
    exact ⟨_, _, by simpa using this⟩
  · exact Lib.tabIs_of_head (g := 1) (by kernel_rfl) (by kernel_rfl) Tryd.underlying103 Tryd.underlying59 (by kernel_rfl) (by kernel_rfl) h3
end Go.Proofs.YtfpojoabfdiadaaDoor
