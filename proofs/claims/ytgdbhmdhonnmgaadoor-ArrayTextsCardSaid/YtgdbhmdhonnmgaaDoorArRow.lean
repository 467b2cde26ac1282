/- Opening the arguments of the statements on arrays: a list of numbers, blocks of numbers. -/
import Derived.Test.YtgdbhmdhonnmgaaDoorArA
import Derived.Test.YtgdbhmdhonnmgaaDoorRowBase
import Derived.Deep.Matrix
namespace Go.Proofs.YtgdbhmdhonnmgaaDoor
open Go.RowKit Go.WideShapes Go.ChangeShapes Go.ChangeAt Go.Deep
set_option linter.unusedVariables false
set_option maxRecDepth 20000
set_option maxRecDepth 20000

theorem in64_of {x : Int} (h : (Lit.int .i64 x).wf = true) : In64 x := by
  simp [Lit.wf, IntKind.min, IntKind.max, IntKind.signed, IntKind.bits] at h
  unfold In64
  omega
theorem nthI_takeD (zs : List Int) (n i : Nat) (h : i < n) : nthI (zs.take n) i = zs.getD i 0 := by
  simp [nthI, List.getD_eq_getElem?_getD, h]
theorem slI_of {W : World} {a : Option Addr} {len cap : Nat} {zs : List Int} (hl : len ≤ cap) (hc : cap ≤ maxLen) (hz : len ≤ zs.length) (h0 : a = none → len = 0)
    (h : ∀ a', a = some a' → ∀ i, i < len → W.cell? (a'.add i) = some (.int .i64 (zs.getD i 0))) : SlI W a cap (zs.take len) := by
  have e : (zs.take len).length = len := by rw [List.length_take]; omega
  refine ⟨fun i hi => ?_, by omega, by simpa only [maxLen] using hc⟩
  rw [e] at hi
  cases a with
  | none => have := h0 rfl; omega
  | some a =>
    obtain ⟨b, off, spot⟩ := a
    have hspot : spot = none := by simpa [Addr.add] using World.cell?_spot (h _ rfl 0 (by omega))
    subst hspot
    refine ⟨b, off, rfl, ?_⟩
    have := h _ rfl i hi
    rw [Go.WideShapes.add_plain] at this
    rw [this, nthI_takeD _ _ _ hi]
/-- A list of numbers, read. -/
theorem open_list {H : Type} {enc : TypeId × Value → H} {W : World} {base b0 : Nat} {r : Reach} {sp : Nat → Bool} {v : Value} {d : DataW H} {ps : List MemPlace} {ts : List TypeId} {ds : List (DataW H)} {j : Nat}
    (hval : Value.okWide Tryd.prog W r b0 31 v) (h : DataW.Trod enc Tryd.prog W base sp true 31 v d ps)
    (hsz : (DataW.weightsEach Tryd.prog ts ds).all (· ≤ reachBytes) = true) (hj : ts[j]? = some 31) (hd : ds[j]? = some d) :
    ∃ (P : Option Addr) (cap : Nat) (l : List Int), v = .slice P l.length cap ∧ SlI W P cap l ∧ (∀ x ∈ l, In64 x) ∧ l.length ≤ 140737488355328 := by
  obtain ⟨a0, len0, cap0, rfl⟩ := okWide_slice Tryd.underlying31 hval
  obtain ⟨fuel, hf⟩ := h
  rcases open_ints Tryd.underlying31 Tryd.underlying3 (by kernel_rfl) hf with ⟨h0, hx⟩ | ⟨a, len, cap, zs, h0, hb, hlc, hcap, hz, hx, hc, hw⟩
  · simp [Value.cells] at h0
    obtain ⟨rfl, rfl, rfl⟩ := h0
    exact ⟨none, 0, [], rfl, SlI.nil _, fun x hx => (by cases hx), by simp⟩
  · simp [Value.cells] at h0
    obtain ⟨rfl, rfl, rfl⟩ := h0
    have hzl : len0 ≤ zs.length := by rw [hz]; split <;> omega
    have e : (zs.take len0).length = len0 := by rw [List.length_take]; omega
    simp only [Prod.mk.injEq] at hx
    have hsl := sized_slice hsz hj (hd.trans (by rw [hx.1])) Tryd.underlying31
    have hby : Tryd.prog.bytesOf 3 = 8 := by kernel_rfl
    have hr := reachBytes_lt
    refine ⟨some a, cap0, zs.take len0, by rw [e], slI_of hlc hcap hzl (fun h => by cases h) (fun a' ha i hi => by cases ha; exact hc i (by omega)), fun x hx => in64_of (hw x (List.mem_of_mem_take hx)), ?_⟩
    rw [e]
    rw [hby] at hsl
    simp [lits] at hsl
    omega
/-- Blocks of numbers, read. -/
theorem open_blocks {H : Type} {enc : TypeId × Value → H} {W : World} {base b0 : Nat} {r : Reach} {v : Value} {d : DataW H} {ps : List MemPlace} {ts : List TypeId} {ds : List (DataW H)} {j : Nat}
    (hval : Value.okWide Tryd.prog W r b0 22 v) (h : DataW.Trod enc Tryd.prog W base (fun _ => true) true 22 v d ps)
    (hsz : (DataW.weightsEach Tryd.prog ts ds).all (· ≤ reachBytes) = true) (hj : ts[j]? = some 22) (hd : ds[j]? = some d) :
    ∃ (P : Option Addr) (cap : Nat) (Q : Nat → Option Addr) (C : Nat → Nat) (LL : List (List Int)), v = .slice P LL.length cap ∧ SlA W P cap Q C LL ∧ (∀ l ∈ LL, ∀ x ∈ l, In64 x) ∧ LL.length ≤ 140737488355328 := by
  obtain ⟨a0, len0, cap0, rfl⟩ := okWide_slice Tryd.underlying22 hval
  obtain ⟨fuel, hf⟩ := h
  rcases open_int_rows Tryd.underlying22 Tryd.underlying31 Tryd.underlying3 (by kernel_rfl) (by kernel_rfl) hf with ⟨h0, hx⟩ | ⟨a, len, cap, A, L, C, Z, h0, hb, hlc, hcap, hx, hr⟩
  · simp [Value.cells] at h0
    obtain ⟨rfl, rfl, rfl⟩ := h0
    exact ⟨none, 0, fun _ => none, fun _ => 0, [], rfl, ⟨fun i hi => by simp at hi, fun i hi => by simp at hi, Nat.le_refl _, by omega⟩, fun l hl => (by cases hl), by simp⟩
  · simp [Value.cells] at h0
    obtain ⟨rfl, rfl, rfl⟩ := h0
    simp only [Prod.mk.injEq] at hx
    have hsl := sized_slice hsz hj (hd.trans (by rw [hx.1])) Tryd.underlying22
    have hby : Tryd.prog.bytesOf 31 = 24 := by kernel_rfl
    have hrb := reachBytes_lt
    rw [hby] at hsl
    simp at hsl
    have e : ((List.range len0).map fun i => (Z i).take (L i)).length = len0 := by simp
    have en : ∀ i, i < len0 → nthA ((List.range len0).map fun i => (Z i).take (L i)) i = (Z i).take (L i) := fun i hi => by simp [nthA, List.getD_eq_getElem?_getD, hi]
    have el : ∀ i, i < len0 → ((Z i).take (L i)).length = L i := fun i hi => by
      obtain ⟨_, h1, _, h3, _⟩ := hr i (by omega)
      rw [List.length_take]; omega
    refine ⟨some a, cap0, A, C, (List.range len0).map fun i => (Z i).take (L i), by rw [e], ⟨fun i hi => ?_, fun i hi => ?_, by omega, by simpa only [maxLen] using hcap⟩, fun l hl x hx => ?_, by omega⟩
    · rw [e] at hi
      obtain ⟨hc, _⟩ := hr i (by omega)
      have hc0 := (hr 0 (by omega)).1
      obtain ⟨b, off, spot⟩ := a
      have hspot : spot = none := by simpa [Addr.add] using World.cell?_spot hc0
      subst hspot
      rw [Go.WideShapes.add_plain] at hc
      exact ⟨b, off, rfl, by rw [hc, en i hi, el i hi]⟩
    · rw [e] at hi
      obtain ⟨_, h1, h2, h3, h4, h5, h6⟩ := hr i (by omega)
      rw [en i hi]
      exact slI_of h1 h2 (by omega) (fun h => by have := h5 h; omega) (fun a' ha j hj => (h6 a' ha).2 j (by omega))
    · simp only [List.mem_map, List.mem_range] at hl
      obtain ⟨i, hi, rfl⟩ := hl
      obtain ⟨_, h1, h2, h3, h4, h5, h6⟩ := hr i (by omega)
      exact in64_of (h4 x (List.mem_of_mem_take hx))
/-- A list of numbers, and blocks of them, read behind the call as they did. -/
theorem backL {H : Type} {enc : TypeId × Value → H} {W W' : World} {v : Value} {d : DataW H} {ps : List MemPlace} (h : DataW.Trod enc Tryd.prog W 0 (fun _ => true) true 31 v d ps) (hb : Below W.heap.size W W')
    (hlt : ∀ x ∈ ps, x.block < W.heap.size) (sp : Nat → Bool) (hsp : ∀ x ∈ ps, sp x.block = true) : DataW.Trod enc Tryd.prog W' 0 sp true 31 v d ps :=
  WideElems.Trod_stays laidOut (by kernel_rfl) (of_decide_eq_true (by kernel_rfl)) h (fun x hx => hb.same (hlt x hx)) hsp
theorem backB {H : Type} {enc : TypeId × Value → H} {W W' : World} {v : Value} {d : DataW H} {ps : List MemPlace} (h : DataW.Trod enc Tryd.prog W 0 (fun _ => true) true 22 v d ps) (hb : Below W.heap.size W W')
    (hlt : ∀ x ∈ ps, x.block < W.heap.size) (sp : Nat → Bool) (hsp : ∀ x ∈ ps, sp x.block = true) : DataW.Trod enc Tryd.prog W' 0 sp true 22 v d ps :=
  WideElems.Trod_stays laidOut (by kernel_rfl) (of_decide_eq_true (by kernel_rfl)) h (fun x hx => hb.same (hlt x hx)) hsp
end Go.Proofs.YtgdbhmdhonnmgaaDoor
