/- From a walk to the statement of a row that lists laid variables, for whatever parameters. -/
import Derived.Test.YtfpojoabfdiadaaDoorRow
import Derived.LaidMore
import Derived.Lay
import Derived.SevenTiedAt
import Derived.Stop.Joined
namespace Go.Proofs.YtfpojoabfdiadaaDoor
open Go.ChangeShapes Go.WideShapes Go.ChangeAt Go.RowKit
set_option linter.unusedVariables false
/-- What a law's walk is handed, and what it owes, where variables are laid. -/
def WalksX (P : Program) (X : World → Prop) (f : FuncId) (tys : Array TypeId) : Prop :=
  ∀ (H : Type) (enc : TypeId × Value → H) (W : World) (base : Nat) (args : Array Value) (ds : List (DataW H)) (p : List MemPlace), X W →
    (∀ (j : Nat) t v, tys[j]? = some t → args[j]? = some v → Value.okWide P W .any base t v) →
    DataW.TrodAll enc P W 0 (fun _ => true) true tys.toList args.toList ds p →
    Calls P f args W fun e W' => e = .returned (.bool true) ∧ Below W.heap.size W W'

theorem law_lifted_and {C : Checked} {os : Os} {f : FuncId} {fn : Func} {s : ChangeSpec} {H : Type} {enc : TypeId × Value → H} {conds : List PathCond} {apart fresh handsOn again : Bool} {tys : Array TypeId} {tb : TypeId} {X : World → Array Value → Prop}
    (hX : ∀ (w w' : World) (args : Array Value), w.heap = w'.heap → X w args → X w' args)
    (hown : ownKnob C.prog.godebug = none) (started : os.Started) (noInit : C.prog.inits.idxOf? f = none) (hfn : C.prog.funcs[f]? = some fn)
    (witness : ∃ (w : World) (tape : Tape) (i : Input), w.os = os ∧ (w.forCall tape i).Shaped C.prog ∧ i.vars = [] ∧ Input.okWide C.prog (w.forCall tape i) .any w.heap.size f i ∧
      ((s.pre enc C.prog fn conds apart (w.forCall tape i).memory i.args ∧ X (w.forCall tape i).memory i.args) ∧ sizedMet enc C.prog fn (OpenSpec.ofChange s) apart (w.forCall tape i).memory i.args) ∧ Assume.holds {} C.prog (lone (Frame.enter C.prog f i.args .normal) [] (w.forCall tape i)))
    (hparams : fn.params = tys) (hvars : s.vars = []) (hspec : ∀ ds : List (DataW H), ds.length = tys.toList.length → s.fn H ds = { results := [.lit (.bool true)], args := ds })
    (hres : fn.resultTypes = #[tb]) (htb : C.prog.underlying tb = some .bool) (hl : laidOutB C.prog = true) (hrd : (tys.toList.all fun t => C.prog.readableRec t && decide (t < C.prog.types.size)) = true)
    (walk : WalksX C.prog (fun W => X W #[]) f tys) (hXargs : ∀ w args, X w args → X w #[]) :
    ReturnsInHanded {} C os f .any (fun w args => (s.pre enc C.prog fn conds apart w args ∧ X w args) ∧ sizedMet enc C.prog fn (OpenSpec.ofChange s) apart w args) (s.post enc C.prog fn apart fresh handsOn again) := by
  refine returnsInHanded_of_change_and hX hown started noInit hfn witness ?_
  intro W base args ds gs before hval hW hcnd _ hXW _
  have hW' := hW
  obtain ⟨p, q, hA, hV, rfl, hfz, hnd⟩ := hW
  rw [hparams] at hA hval
  rw [hvars] at hV
  obtain ⟨rfl, rfl⟩ := trodVars_none hV
  have hlen := trodAll_len hA
  have hsp := hspec ds hlen
  refine (walk H enc W base args ds p (hXargs W args hXW) hval hA).mono fun e W' ⟨he, hb⟩ => ?_
  subst he
  refine ⟨_, rfl, post_of_below (pa := p) (pv := []) hW' ?_ ?_ ?_ (by simp) hb ?_⟩
  · intro b sp hd
    rw [List.append_nil, hsp, hres]
    exact trodAll_mk1 (shut_bool htb true)
  · intro sp hs
    rw [List.append_nil, hsp, hparams]
    exact below_trodAll hl hb hrd hA (fun x hx => hW'.lt x (List.mem_append_left _ hx)) sp (fun x hx => hs x (List.mem_append_left _ hx))
  · intro sp hs
    rw [List.append_nil, hsp, hvars]
    exact rfl
  · exact ok_one hres rfl (okWide_bool_mk htb true)
end Go.Proofs.YtfpojoabfdiadaaDoor
