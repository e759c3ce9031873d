/- What the proofs of this seat lean on, part 20: a symbolic machine that is shown sound, walks through functions, plain laws. -/
import Derived.Test.YtcmbobdkilcjeaaDoorZ19
import Derived.Test.YtcmbobdkilcjeaaDoorZ17
import Derived.Lib.ItoaNum
import Derived.Lib.LaidTab
import Derived.Deep.Draws
import Derived.Test.YtcmbobdkilcjeaaDoorZ18
namespace Go.Fw
open Go Go.Sort Go.RowKit Go.Proofs
set_option linter.unusedVariables false
set_option linter.unusedSimpArgs false
theorem tabIs_of_G {P : Program} {F : Nat → Prop} {w : World} {name : String} {g : Nat} {k : IntKind} {zs : List Int} (hg : P.globalNamed name = some g) (hm : (g, k, zs) ∈ tabList) (h : TabsG F w) : Lib.TabIs P w name k zs := by
  obtain ⟨_, e, fr, h2⟩ := h _ hm
  unfold Lib.TabIs World.var?
  rw [hg]
  simp only [Option.bind_some, h2]
theorem tabG_of {P : Program} {w : World} {name : String} {g : Nat} {k : IntKind} {zs : List Int} (hg : P.globalNamed name = some g) (h : Lib.TabIs P w name k zs) : g < w.heap.size ∧ ∃ e fr, w.heap[g]? = some (.cells (zs.map fun z => Value.int k z).toArray e fr) := by
  unfold Lib.TabIs World.var? at h
  rw [hg] at h
  simp only [Option.bind_some] at h
  split at h
  · rename_i cs e fr hh
    simp only [Option.some.injEq] at h
    subst h
    exact ⟨(Array.getElem?_eq_some_iff.1 hh).1, e, fr, hh⟩
  · cases h
theorem of_all_false {α : Type} {l : List α} {p : α → Bool} (h : (l.all fun x => !p x) = true) {x : α} (hx : x ∈ l) : p x = false := by
  have := List.all_eq_true.1 h x hx
  simpa using this
theorem itoa_has {P : Program} {g : FuncId} {fn : Func} (hfn : P.funcs[g]? = some fn) (hname : (fn.name == "runtime.NumGoroutine") = false) (hb : fn.body.isSome = true)
    {gt : Nat} (hg : P.globalNamed "internal/strconv.uint64pow10" = some gt) (hm : (gt, IntKind.u64, Lib.pow10Tab) ∈ tabList)
    (hI : ∀ (n : Int) (h0 : -9223372036854775808 ≤ n) (h1 : n ≤ 9223372036854775807) (w : World) (htab : Lib.TabIs P w "internal/strconv.uint64pow10" .u64 Lib.pow10Tab),
      Calls P g #[.int .i64 n] w fun e w' => e = .returned (.string ⟨(Lib.itoa n).toArray⟩) ∧ ∃ k os, w' = grow (w.drewN k) os)
    (n : Int) (h0 : -9223372036854775808 ≤ n) (h1 : n ≤ 9223372036854775807) : Has P g [.d (.int .i64 n)] (fun rs _ => rs = [.d (.str (strB (Lib.itoa n)))]) := by
  constructor
  intro F w vs fp hc hn hs hF
  simp only [CRl, CR, DRv, DRc] at hc
  obtain ⟨v, vs', f1, f2, rfl, ⟨hv, rfl⟩, ⟨rfl, rfl⟩, rfl⟩ := hc
  simp only [List.cons.injEq, and_true] at hv
  subst hv
  refine enters_of_calls hfn hname hb ((hI n h0 h1 w (tabIs_of_G hg hm hF.tab)).mono fun en w' he => ?_)
  obtain ⟨rfl, k, os, rfl⟩ := he
  have hsz : w.heap.size ≤ (grow (w.drewN k) os).heap.size := by simp [grow, World.drewN]
  refine ⟨[.d (.str (strB (Lib.itoa n)))], [.gone], F, [.string ⟨(Lib.itoa n).toArray⟩], [], [], rfl, ⟨by simp [Rv], ?_, by simp [CRl, CR], by simp, by simp, fun x hx => Nat.lt_of_lt_of_le (hF x hx) hsz, fun _ h => h, fun b hb _ => ?_, fun b hb => .inl (by simpa using hb), rfl, rfl, rfl, hsz⟩⟩
  · simp only [CRl, CR, DRv, DRc]
    exact ⟨_, [], [], [], rfl, ⟨rfl, rfl⟩, ⟨rfl, rfl⟩, rfl⟩
  · show ((w.drewN k).heap ++ os)[b]? = _
    rw [Array.getElem?_append_left (by simpa [World.drewN] using hb)]
    rfl
end Go.Fw
namespace Go.Fw
open Go Go.Sort Go.RowKit Go.Proofs
set_option linter.unusedVariables false
set_option linter.unusedSimpArgs false
 
theorem pick_has {P : Program} {g : FuncId} {fn : Func} (hfn : P.funcs[g]? = some fn) (hname : (fn.name == "runtime.NumGoroutine") = false) (hb : fn.body.isSome = true) (φ : List ByteArray → ByteArray)
    (hS : ∀ (b off n c : Nat) (zs : List ByteArray) (w : World), 0 < n → n ≤ zs.length → n ≤ 9223372036854775807 → (∀ j, j < zs.length → w.cell? ⟨b, off + j, none⟩ = some (.string (zs.getD j ByteArray.empty))) →
      Calls P g #[.slice (some ⟨b, off, none⟩) n c] w fun e w' => e = .returned (.string (φ (zs.take n))) ∧ w' = w)
    (e : Nat) (ss : List ByteArray) (hne : 0 < ss.length) :
    Has P g [.own e 1 (ss.map D.str)] (fun rs bs => rs = [.d (.str (φ ss))] ∧ bs = [.own e 1 (ss.map D.str)]) := by
  constructor
  intro F w vs fp hc hn hs hF
  have hc0 := hc
  simp only [CRl, CR] at hc
  obtain ⟨v, vs', f1, f2, rfl, hv, ⟨rfl, rfl⟩, rfl⟩ := hc
  rw [List.append_nil] at hn hs
  rcases hv with ⟨rfl, hnil, rfl⟩ | ⟨b, n, cs, fr, rfl, hh, hu, h0, hcs, hln, hm, hd, rfl⟩
  · have hss : ss = [] := by simpa using hnil
    subst hss
    simp at hne
  · have hl1 : (ss.map D.str).length = ss.length := by simp
    rw [hl1] at hln hd hc0
    simp only [Nat.mul_one] at hcs hd
    have hcells := strs_cells hd
    have hlc : ss.length ≤ cs.size := by omega
    have hmx : n ≤ 9223372036854775807 := by simpa [maxLen] using hm
    have hcl := Cells_of_block hh 0 ss.length
    rw [List.drop_zero] at hcl
    have hcell : ∀ j, j < ss.length → w.cell? ⟨b, 0 + j, none⟩ = some (.string (ss.getD j ByteArray.empty)) := fun j hj => by
      have := hcl j (.string (ss.getD j ByteArray.empty)) (by rw [hcells]; simp [List.getD_eq_getElem?_getD, hj])
      rwa [add_plain] at this
    have hcall := hS b 0 ss.length n ss w hne (Nat.le_refl _) (by omega) hcell
    rw [List.take_length] at hcall
    rw [hl1]
    refine enters_of_calls hfn hname hb (hcall.mono fun en w' he => ?_)
    obtain ⟨rfl, rfl⟩ := he
    refine ⟨[.d (.str (φ ss))], [.own e 1 (ss.map D.str)], F, [.string (φ ss)], [], [b], ⟨rfl, rfl⟩, ⟨by simp [Rv], ?_, ?_, by simp, fun x hx => hs x (by simpa using hx), fun x hx => hF x hx, fun _ h => h, fun b hb _ => rfl, fun x hx => ?_, rfl, rfl, rfl, Nat.le_refl _⟩⟩
    · simp only [CRl, CR, DRv, DRc]
      exact ⟨_, [], [], [], rfl, ⟨rfl, rfl⟩, ⟨rfl, rfl⟩, rfl⟩
    · simpa using hc0
    · rcases hx with h | h
      · exact .inl h
      · exact .inr (.inl (by simpa using h))
end Go.Fw
