/- What the proofs of this seat lean on, part 16: a symbolic machine that is shown sound, walks through functions, plain laws. -/
import Derived.Test.YtihbadicabmagaaZ14
import Derived.Test.YtihbadicabmagaaZ15
import Derived.JoinedCond
namespace Go.Fw
open Go Go.Sort Go.RowKit Go.Proofs Go.ChangeShapes
set_option linter.unusedVariables false
set_option linter.unusedSimpArgs false
 
theorem strs_has {P : Program} {g : FuncId} {fn : Func} (hfn : P.funcs[g]? = some fn) (hname : (fn.name == "runtime.NumGoroutine") = false) (hb : fn.body.isSome = true) {x : Nat} (hx : x ∈ varList)
    (s t : ByteArray) (b : Bool) (hI : ∀ (w : World) (m : Int), w.cell? ⟨x, 0, none⟩ = some (.int .i64 m) → Calls P g #[.string s, .string t] w fun e w' => e = .returned (.bool b) ∧ w' = w) : Has P g [.d (.str s), .d (.str t)] (fun rs _ => rs = [.d (.bool b)]) := by
  constructor
  intro F w vs fp hc hn hs hF
  simp only [CRl, CR, DRv, DRc] at hc
  obtain ⟨v, vs', f1, f2, rfl, ⟨hv, rfl⟩, ⟨v2, vs2, f3, f4, rfl, ⟨hv2, rfl⟩, ⟨rfl, rfl⟩, rfl⟩, rfl⟩ := hc
  simp only [List.cons.injEq, and_true] at hv hv2
  subst hv
  subst hv2
  obtain ⟨_, m, hm⟩ := hF.var x hx
  refine enters_of_calls hfn hname hb ((hI w m hm).mono fun en w' he => ?_)
  obtain ⟨rfl, rfl⟩ := he
  refine ⟨[.d (.bool b)], [.gone, .gone], F, [.bool b], [], [], rfl, ⟨by simp [Rv], ?_, by simp [CRl, CR]; exact ⟨_, _, ⟨rfl, rfl⟩, _, rfl⟩, by simp, by simp, fun x hx => hF x hx, fun _ h => h, fun b hb _ => rfl, fun b hb => .inl (by simpa using hb), rfl, rfl, rfl, Nat.le_refl _⟩⟩
  simp only [CRl, CR, DRv, DRc]
  exact ⟨_, [], [], [], rfl, ⟨rfl, rfl⟩, ⟨rfl, rfl⟩, rfl⟩
 
theorem returnsInHanded_of_condS {H : Type} {enc : TypeId × Value → H} {a : Assume} {C : Checked} {os : Os} {f : FuncId} {fn : Func} {s : OpenSpec} {k : (H : Type) → List (DataW H) → Bool} (hk : s.cond = some k) {F : Stop.Interp} {conds : List PathCond} {apart fresh handsOn again : Bool}
    (own : ownKnob C.prog.godebug = none) (started : os.Started) (noInit : C.prog.inits.idxOf? f = none) (hfn : C.prog.funcs[f]? = some fn)
    (witness : ∃ (w : World) (tape : Tape) (i : Input), w.os = os ∧ (w.forCall tape i).Shaped C.prog ∧ i.vars = [] ∧ Input.okWide C.prog (w.forCall tape i) .any w.heap.size f i ∧
      s.pre6 enc C.prog fn conds apart (w.forCall tape i).memory i.args ∧ a.holds C.prog (lone (Frame.enter C.prog f i.args .normal) [] (w.forCall tape i)))
    (contract : ∀ (W : World) (base : Nat) (args : Array Value) (ds gs : List (DataW H)) (before : List MemPlace), W.ShapedOpen C.prog →
      (∀ (j : Nat) t v, fn.params[j]? = some t → args[j]? = some v → Value.okWide C.prog W .any base t v) →
      DataW.Whole enc C.prog fn.params.toList s.vars apart W args.toList ds gs before →
      conds.all (PathCond.test C.prog ⟨fn.params.toList, ds, s.bare.plain.varTypes C.prog, gs⟩) = true → k H (ds ++ gs) = true →
      a.holds C.prog (lone (Frame.enter C.prog f args .normal) [] W) →
      Calls C.prog f args W fun e W' => ∃ v, e = .returned v ∧ (s.at F).post enc C.prog fn apart fresh handsOn again W args v W') :
    ReturnsInHanded a C os f .any (s.pre6 enc C.prog fn conds apart) ((s.at F).post enc C.prog fn apart fresh handsOn again) := by
  refine returnsInHanded_of_calls own started noInit witness ?_
  intro w tape i _ hsh _ hok hpre hholds
  obtain ⟨_, _, _, fn', hfn', _, _, _, _, hval⟩ := hok
  have e : fn' = fn := Option.some.inj (hfn'.symm.trans hfn)
  subst e
  obtain ⟨ds, gs, before, hw, hc, hkk⟩ := (OpenSpec.pre_some hk conds apart _ _).1 hpre.1
  have hw' := DataW.Whole.of_heap (w' := w.forCall tape i) (by rfl) hw
  refine (contract (w.forCall tape i) w.heap.size i.args ds gs before hsh hval hw' hc hkk hholds).mono fun e W' ⟨v, he, hp⟩ => ?_
  subst he
  exact ChangeSpec.post_blind hp
end Go.Fw
