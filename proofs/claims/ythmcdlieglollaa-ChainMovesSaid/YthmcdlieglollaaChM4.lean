/- Rings: a map from links to how often they were met, of the call's own. -/
import Derived.Test.YthmcdlieglollaaChM3
import Derived.Test.YthmcdlieglollaaRowBaseC
import Derived.WideKeyEntry
import Derived.DeepKeys4
import Derived.Maps.OwnSet
import Derived.Maps.RangeWalk
namespace Go.Proofs.Ythmcdlieglollaa
open Go.RowKit Go.Maps Go.MapKept Go.WideElems Go.ChangeMaps
set_option linter.unusedVariables false
set_option linter.unusedSimpArgs false
set_option linter.unusedSectionVars false
set_option maxRecDepth 20000

theorem lkLaw : WideMaps.KeyLaw Try.prog 31 := deep_law_laid laidOut (m := 2) (by omega) (by decide +kernel) (by kernel_rfl) (by kernel_rfl)
theorem lkKeyed : Keyed Try.prog 31 := Keyed.of_law lkLaw
theorem wf_of {x : Int} (h : OkI x) : (Lit.int .i64 x).wf = true := by
  unfold OkI at h
  simp [Lit.wf, IntKind.min, IntKind.max, IntKind.signed, IntKind.bits]
  omega
theorem key_lk (x : Lk) (h : OkK x) : keyOf Try.prog 31 x.v = some (.string (keyBytes [.int .i64 x.1, .int .i64 x.2.1, .int .i64 x.2.2.1, .int .i64 x.2.2.2])) := by
  obtain ⟨a, b, c, d⟩ := x
  have w0 := wf_of h.1
  have w1 := wf_of h.2.1
  have w2 := wf_of h.2.2.1
  have w3 := wf_of h.2.2.2
  have hu := Try.underlying31
  have hi := Try.underlying3
  have hc : Try.prog.cellsOf 31 = 4 := by kernel_rfl
  have hc1 : Try.prog.cellsOf 3 = 1 := by kernel_rfl
  have hkt : Try.prog.keyType 31 = true := by kernel_rfl
  obtain ⟨m, hm⟩ : ∃ m, Try.prog.types.size = m + 1 := ⟨Try.prog.types.size - 1, (Nat.succ_pred_eq_of_pos (by decide +kernel)).symm⟩
  have h1 : ∀ z : Int, (Lit.int .i64 z).wf = true → Try.prog.keyLits (m + 1) 3 [.int .i64 z] = some [.int .i64 z] := fun z hz => by
    unfold Program.keyLits
    rw [hi]
    simp [hz]
  have hf : Value.formed Try.prog 31 (.agg #[.int .i64 a, .int .i64 b, .int .i64 c, .int .i64 d]) = true := by
    unfold Value.formed
    rw [hu]
    simp [hc]
  have hl : Try.prog.keyLits (m + 1 + 1) 31 [.int .i64 a, .int .i64 b, .int .i64 c, .int .i64 d] = some [.int .i64 a, .int .i64 b, .int .i64 c, .int .i64 d] := by
    unfold Program.keyLits
    rw [hu]
    simp [hc, hc1, h1 _ w0, h1 _ w1, h1 _ w2, h1 _ w3]
  unfold keyOf
  rw [hu]
  simp only
  rw [if_pos (by rw [hkt]; simpa [Lk.v] using hf), hm]
  have : (Lk.v (a, b, c, d)).cells.toList = [.int .i64 a, .int .i64 b, .int .i64 c, .int .i64 d] := rfl
  rw [this, hl]
  rfl
/-- what a link reads as, as a map's key -/
def mkL (x : Lk) : Lit := .string (keyBytes [.int .i64 x.1, .int .i64 x.2.1, .int .i64 x.2.2.1, .int .i64 x.2.2.2])
theorem mkL_key {x : Lk} (h : OkK x) : keyOf Try.prog 31 x.v = some (mkL x) := key_lk x h
theorem mkL_inj {x y : Lk} (hx : OkK x) (hy : OkK y) (e : mkL x = mkL y) : x = y := by
  have := lkKeyed.inj (mkL_key hx) (by rw [e]; exact mkL_key hy)
  obtain ⟨a, b, c, d⟩ := x
  obtain ⟨a', b', c', d'⟩ := y
  simpa [Lk.v] using this
theorem mkL_lit {x : Lk} (h : OkK x) : WideAt.IsKeyLit (mkL x) := lkKeyed.key (mkL_key h)
theorem zeroI (w : World) : (zeroValue 3).run Try.prog w = .ok (.int .i64 0) w := by kernel_rfl
/-- block B is a map in which each link stands as often as it was met -/
def CntM (w : World) (B : Nat) (l : List Lk) : Prop :=
  ∃ (D : DataW Unit) (n : Nat), n ≤ l.length ∧ w.ownsMap Try.prog 31 (plainElem (H := Unit) Try.prog 3) B n D ∧ (∀ kl, has D kl = true ↔ ∃ x ∈ l, mkL x = kl) ∧ (∀ x, OkK x → D.atKey (mkL x) (.lit (.int .i64 0)) = .lit (.int .i64 (l.count x : Nat)))
theorem CntM.lt {w : World} {B : Nat} {l : List Lk} (h : CntM w B l) : B < w.heap.size := by obtain ⟨D, n, _, h, _⟩ := h; exact h.lt
theorem CntM.same {w w' : World} {B : Nat} {l : List Lk} (h : CntM w B l) (he : w'.heap[B]? = w.heap[B]?) : CntM w' B l := by
  obtain ⟨D, n, hn, ⟨es, clock, hb, r'⟩, r⟩ := h
  exact ⟨D, n, hn, ⟨es, clock, he.trans hb, r'⟩, r⟩
theorem CntM.ext {w w' : World} {B : Nat} {l : List Lk} (h : CntM w B l) (he : Ext w w') : CntM w' B l := h.same (he.block h.lt)
theorem CntM.made (w : World) : CntM (w.alloc (.map #[] 0)) w.heap.size [] :=
  ⟨.map [], 0, by simp, World.ownsMap_made _ _ _ _, fun kl => by simp [has], fun x _ => by simp [DataW.atKey]⟩
/-- a link in a box of its own -/
theorem lk_box (w : World) (x : Lk) {W5 : World} {B : Nat} (hu : Upd (w.alloc (.cells x.cells.toArray 31)).drew B W5) (hB : w.heap.size ≠ B) :
    W5.cell? ⟨w.heap.size, 0, none⟩ = some (.int .i64 x.1) ∧ W5.cell? ⟨w.heap.size, 1, none⟩ = some (.int .i64 x.2.1) ∧ W5.cell? ⟨w.heap.size, 2, none⟩ = some (.int .i64 x.2.2.1) ∧ W5.cell? ⟨w.heap.size, 3, none⟩ = some (.int .i64 x.2.2.2) := by
  have h0 : (w.alloc (.cells x.cells.toArray 31)).drew.heap[w.heap.size]? = some (.cells x.cells.toArray 31 (0, 0)) := World.alloc_heap_new w _
  have hb := hu.heap h0 hB
  refine ⟨by simp [World.cell?, hb, Lk.cells], by simp [World.cell?, hb, Lk.cells], by simp [World.cell?, hb, Lk.cells], by simp [World.cell?, hb, Lk.cells]⟩
/-- 'count[x]++': the look-up, before and behind the entry; the entry; the store into it -/
theorem CntM.step {w : World} {B : Nat} {l : List Lk} (h : CntM w B l) (x : Lk) (hx : OkK x) (ok : ∀ y ∈ l, OkK y) (hl : l.length ≤ 100000) :
    ∃ (v0 : Value) (st : Nat) (w1 w2 : World), (Instr.mapEntry 81 (.map (some B)) x.v).run Try.prog w = .ok (.tuple #[v0, goInt st]) w1 ∧
      (Instr.lookup 81 (.map (some B)) x.v false).run Try.prog w = .ok (.int .i64 (l.count x : Nat)) w ∧
      (Instr.lookup 81 (.map (some B)) x.v false).run Try.prog w1 = .ok (.int .i64 (l.count x : Nat)) w1 ∧
      (Instr.entryStore 81 (.map (some B)) (goInt st) (.int .i64 ((l.count x : Nat) + 1 : Int))).run Try.prog w1 = .ok () w2 ∧
      CntM w2 B (l ++ [x]) ∧ w.grownBy w1 (some B) ∧ w1.grownBy w2 (some B) := by
  obtain ⟨D, n, hn, hown, hh, hc⟩ := h
  have hown0 := hown
  obtain ⟨es, clock, hb, F, hs, hD⟩ := hown0
  have ht := Try.underlying81
  have hi := Try.underlying3
  have hkey := mkL_key hx
  have hT := hown.tidy lkKeyed
  have hcx := hc x hx
  -- the look-up ahead of the entry
  obtain ⟨c, hrun, hat, _⟩ := hown.lookup_int lkKeyed ht hi (zeroI w) hkey
  have hce : c = (l.count x : Nat) := by
    rw [hcx] at hat
    simpa using hat.symm
  -- the entry
  obtain ⟨v0, st, es1, clock1, hE1, _, hE2⟩ := entry_then_store lkLaw ht zeroI hb F hkey
  have hb1 : (setBlock w B (.map es1 clock1)).heap[B]? = some (.map es1 clock1) := (heap_set hb).1
  obtain ⟨es', clock', hSt, hUp⟩ := hE2 (setBlock w B (.map es1 clock1)) (.int .i64 ((l.count x : Nat) + 1 : Int)) hb1
  have hb2 : (setBlock (setBlock w B (.map es1 clock1)) B (.map es' clock')).heap[B]? = some (.map es' clock') := (heap_set hb1).1
  have hcl : l.count x ≤ l.length := List.count_le_length
  -- the store
  obtain ⟨w', hUp2, hown', _⟩ := hown.update lkKeyed ht (by unfold maxLen; omega) hkey (plainElem_int (H := Unit) hi (wf_of (x := (l.count x : Nat) + 1) ⟨by omega, by omega⟩))
  have hw' : w' = setBlock w B (.map es' clock') := by
    rw [hUp] at hUp2
    injection hUp2 with _ e
    exact e.symm
  have hbw' : w'.heap[B]? = some (.map es' clock') := by rw [hw']; exact (heap_set hb).1
  -- the look-up behind the entry
  have hlook1 : (Instr.lookup 81 (.map (some B)) x.v false).run Try.prog (setBlock w B (.map es1 clock1)) = .ok (.int .i64 (l.count x : Nat)) (setBlock w B (.map es1 clock1)) := by
    rcases lkLaw.find w hkey es.toList F.keys with ⟨h1, h2⟩ | ⟨j, e0, h1, h2, h3⟩
    · have hM : (Instr.mapEntry 81 (.map (some B)) x.v).run Try.prog w = .ok (.tuple #[.int .i64 0, goInt clock]) (setBlock w B (.map (es.push ⟨x.v, .int .i64 0, clock⟩) (clock + 1))) := by
        simp [Instr.mapEntry, run_underlying ht, MapKept.run_getObj_map hb, lkLaw.check w false hkey, h1, zeroI, MapKept.run_setObj_map _ hb, Result.andThen, setBlock]
      have hU : (Instr.mapUpdate 81 (.map (some B)) x.v (.int .i64 0)).run Try.prog w = .ok () (setBlock w B (.map (es.push ⟨x.v, .int .i64 0, clock⟩) (clock + 1))) := by
        simp [Instr.mapUpdate, run_underlying ht, MapKept.run_getObj_map hb, lkLaw.check w false hkey, h1, MapKept.run_setObj_map _ hb, Result.andThen, setBlock]
      have hEq : setBlock w B (.map es1 clock1) = setBlock w B (.map (es.push ⟨x.v, .int .i64 0, clock⟩) (clock + 1)) := by
        rw [hE1] at hM
        injection hM with _ e
      obtain ⟨w3, hU3, hown3, _⟩ := hown.update lkKeyed ht (by unfold maxLen; omega) hkey (plainElem_int (H := Unit) hi (wf_of (x := 0) ⟨by omega, by omega⟩))
      have hw3 : w3 = setBlock w B (.map es1 clock1) := by
        rw [hEq]
        rw [hU] at hU3
        injection hU3 with _ e
        exact e.symm
      rw [hw3] at hown3
      obtain ⟨c3, hrun3, hat3, _⟩ := hown3.lookup_int lkKeyed ht hi (zeroI _) hkey
      rw [atKey_put_same hT.isMap (mkL_lit hx)] at hat3
      have hc3 : c3 = 0 := by simpa using hat3.symm
      have hc0 : c = 0 := by
        rcases Maps.fit_look false lkKeyed ht (zeroI w) hb F hkey with ⟨_, _, hz⟩ | ⟨e0, y, hm, hk, _⟩
        · have := hz (.lit (.int .i64 0))
          rw [← hD] at this
          rw [this] at hat
          simpa using hat.symm
        · exact absurd hk (h2 e0 hm)
      rw [hrun3, hc3, ← hce, hc0]
    · have hj : es[j]? = some e0 := by simpa using h2
      have hsame : es.modify j (fun e => { e with key := x.v }) = es := by
        apply Array.ext'
        rw [Array.toList_modify, modify_eq_set _ _ _ _ h2]
        have : ({ e0 with key := x.v } : MapEntry) = e0 := by rw [← h3]
        rw [this]
        exact set_self _ _ _ h2
      have hM : (Instr.mapEntry 81 (.map (some B)) x.v).run Try.prog w = .ok (.tuple #[e0.val, goInt e0.born]) (setBlock w B (.map es clock)) := by
        simp [Instr.mapEntry, run_underlying ht, MapKept.run_getObj_map hb, lkLaw.check w false hkey, h1, hj, h3, lkLaw.stays w hkey, hsame, MapKept.run_setObj_map _ hb, Result.andThen, setBlock]
      have hEq : setBlock w B (.map es1 clock1) = setBlock w B (.map es clock) := by
        rw [hE1] at hM
        injection hM with _ e
      have hown1 : (setBlock w B (.map es1 clock1)).ownsMap Try.prog 31 (plainElem (H := Unit) Try.prog 3) B n D := by
        rw [hEq]
        exact ⟨es, clock, (heap_set hb).1, F, hs, hD⟩
      obtain ⟨c3, hrun3, hat3, _⟩ := hown1.lookup_int lkKeyed ht hi (zeroI _) hkey
      have hc3 : c3 = c := by
        rw [hat] at hat3
        simpa using hat3.symm
      rw [hrun3, hc3, hce]
  refine ⟨v0, st, setBlock w B (.map es1 clock1), setBlock (setBlock w B (.map es1 clock1)) B (.map es' clock'), hE1, by rw [hrun, hce], hlook1, hSt, ?_, ?_, ?_⟩
  · have hC : CntM w' B (l ++ [x]) := by
      refine ⟨_, n + 1, by simp; omega, hown', fun kl => ?_, fun y hy => ?_⟩
      · by_cases e : kl = mkL x
        · subst e
          rw [has_put_same hT.isMap (mkL_lit hx)]
          exact ⟨fun _ => ⟨x, by simp, rfl⟩, fun _ => rfl⟩
        · rw [has_put_other e, hh]
          constructor
          · rintro ⟨y, hy, rfl⟩; exact ⟨y, by simp [hy], rfl⟩
          · rintro ⟨y, hy, rfl⟩
            rw [List.mem_append, List.mem_singleton] at hy
            rcases hy with hy | rfl
            · exact ⟨y, hy, rfl⟩
            · exact absurd rfl e
      · by_cases e : y = x
        · subst e
          rw [atKey_put_same hT.isMap (mkL_lit hx)]
          simp [List.count_append]
        · rw [atKey_put_other (fun h => e (mkL_inj hy hx h)), hc y hy]
          have : [x].count y = 0 := by rw [List.count_eq_zero]; simp [e]
          rw [List.count_append, this, Nat.add_zero]
    exact hC.same (hb2.trans hbw'.symm)
  · exact ⟨rfl, rfl, rfl, by simp [setBlock], fun i _ hi => (heap_set hb).2 i (fun e => hi (by rw [e]))⟩
  · exact ⟨rfl, rfl, rfl, by simp [setBlock], fun i _ hi => (heap_set hb1).2 i (fun e => hi (by rw [e]))⟩
end Go.Proofs.Ythmcdlieglollaa
