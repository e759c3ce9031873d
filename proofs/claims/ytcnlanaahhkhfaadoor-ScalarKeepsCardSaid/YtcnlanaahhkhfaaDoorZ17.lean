/- What the proofs of this seat lean on, part 17: a symbolic machine that is shown sound, walks through functions, plain laws. -/
import Derived.Test.YtcnlanaahhkhfaaDoorZ16
import Derived.Lib.ItoaNum
import Derived.Lib.LaidTab
import Derived.Deep.Draws
namespace Go.Fw
open Go Go.Sort Go.RowKit Go.Proofs
set_option linter.unusedVariables false
set_option linter.unusedSimpArgs false
theorem tabIs_of_G {P : Program} {F : Nat → Prop} {w : World} {name : String} {g : Nat} {k : IntKind} {zs : List Int} (hg : P.globalNamed name = some g) (hm : (g, k, zs) ∈ tabList) (h : TabsG F w) : Lib.TabIs P w name k zs := by
  obtain ⟨_, e, fr, h2⟩ := h _ hm
  unfold Lib.TabIs World.var?
  rw [hg]
  simp only [Option.bind_some, h2]
theorem tabG_of {P : Program} {w : World} {name : String} {g : Nat} {k : IntKind} {zs : List Int} (hg : P.globalNamed name = some g) (h : Lib.TabIs P w name k zs) : g < w.heap.size ∧ ∃ e fr, w.heap[g]? = some (.cells (zs.map fun z => Value.int k z).toArray e fr) := by
  unfold Lib.TabIs World.var? at h
  rw [hg] at h
  simp only [Option.bind_some] at h
  split at h
  · rename_i cs e fr hh
    simp only [Option.some.injEq] at h
    subst h
    exact ⟨(Array.getElem?_eq_some_iff.1 hh).1, e, fr, hh⟩
  · cases h
theorem of_all_false {α : Type} {l : List α} {p : α → Bool} (h : (l.all fun x => !p x) = true) {x : α} (hx : x ∈ l) : p x = false := by
  have := List.all_eq_true.1 h x hx
  simpa using this
theorem itoa_has {P : Program} {g : FuncId} {fn : Func} (hfn : P.funcs[g]? = some fn) (hname : (fn.name == "runtime.NumGoroutine") = false) (hb : fn.body.isSome = true)
    {gt : Nat} (hg : P.globalNamed "internal/strconv.uint64pow10" = some gt) (hm : (gt, IntKind.u64, Lib.pow10Tab) ∈ tabList)
    (hI : ∀ (n : Int) (h0 : -9223372036854775808 ≤ n) (h1 : n ≤ 9223372036854775807) (w : World) (htab : Lib.TabIs P w "internal/strconv.uint64pow10" .u64 Lib.pow10Tab),
      Calls P g #[.int .i64 n] w fun e w' => e = .returned (.string ⟨(Lib.itoa n).toArray⟩) ∧ ∃ k os, w' = grow (w.drewN k) os)
    (n : Int) (h0 : -9223372036854775808 ≤ n) (h1 : n ≤ 9223372036854775807) : Has P g [.d (.int .i64 n)] (fun rs _ => rs = [.d (.str (strB (Lib.itoa n)))]) := by
  constructor
  intro F w vs fp hc hn hs hF
  simp only [CRl, CR, DRv, DRc] at hc
  obtain ⟨v, vs', f1, f2, rfl, ⟨hv, rfl⟩, ⟨rfl, rfl⟩, rfl⟩ := hc
  simp only [List.cons.injEq, and_true] at hv
  subst hv
  refine enters_of_calls hfn hname hb ((hI n h0 h1 w (tabIs_of_G hg hm hF.tab)).mono fun en w' he => ?_)
  obtain ⟨rfl, k, os, rfl⟩ := he
  have hsz : w.heap.size ≤ (grow (w.drewN k) os).heap.size := by simp [grow, World.drewN]
  refine ⟨[.d (.str (strB (Lib.itoa n)))], [.gone], F, [.string ⟨(Lib.itoa n).toArray⟩], [], [], rfl, ⟨by simp [Rv], ?_, by simp [CRl, CR], by simp, by simp, fun x hx => Nat.lt_of_lt_of_le (hF x hx) hsz, fun _ h => h, fun b hb _ => ?_, fun b hb => .inl (by simpa using hb), rfl, rfl, rfl, hsz⟩⟩
  · simp only [CRl, CR, DRv, DRc]
    exact ⟨_, [], [], [], rfl, ⟨rfl, rfl⟩, ⟨rfl, rfl⟩, rfl⟩
  · show ((w.drewN k).heap ++ os)[b]? = _
    rw [Array.getElem?_append_left (by simpa [World.drewN] using hb)]
    rfl
end Go.Fw
