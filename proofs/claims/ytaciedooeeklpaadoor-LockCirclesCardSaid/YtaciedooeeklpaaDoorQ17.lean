/- LmP; LmQ; Held; LmR (merged by group.py) -/
import Derived.Test.YtaciedooeeklpaaDoorQ16
import Derived.Maps.OwnSet
import Derived.Maps.OwnOps
import Derived.Test.YtaciedooeeklpaaDoorQ05
import Derived.OrdersHeld
namespace Go.Proofs.YtaciedooeeklpaaDoor
section
open Go.RowKit Go.Maps
set_option linter.unusedVariables false
set_option linter.unusedSimpArgs false
set_option linter.unusedSectionVars false
set_option maxRecDepth 100000
attribute [local go_sem] Oper.semAt_some

abbrev Ed := Int × Int
def csE (x : Ed) : List Value := [.int .i64 x.1, .int .i64 x.2]
abbrev SlE (w : World) (P : Option Addr) (c : Nat) (l : List Ed) : Prop := SlG csE w P c l
theorem SlE.at2 {w : World} {P : Option Addr} {c : Nat} {l : List Ed} (h : SlE w P c l) (i : Nat) (x : Ed) (hx : l[i]? = some x) : ∃ b off, P = some ⟨b, off, none⟩ ∧ w.cell? ⟨b, off + i * 2, none⟩ = some (.int .i64 x.1) ∧ w.cell? ⟨b, off + i * 2 + 1, none⟩ = some (.int .i64 x.2) := by
  obtain ⟨b, off, e, hc⟩ := h.at_ i x hx
  refine ⟨b, off, e, ?_, ?_⟩
  · simpa [csE] using hc 0 _ rfl
  · simpa [csE] using hc 1 _ rfl
def negE (x : Ed) : Bool := decide (x.1 < 0) || decide (x.2 < 0)
theorem negf_any (x : Ed) (w : World) : Calls Tryd.prog 28 #[.agg #[.int .i64 x.1, .int .i64 x.2]] w fun e w' => e = .returned (.bool (negE x)) ∧ Ext w w' := by
  obtain ⟨a, b⟩ := x
  unfold negE
  simp only
  have HB := BoxN.new w 52 #[.int .i64 a, .int .i64 b]
  have c0 : (w.alloc (.cells #[.int .i64 a, .int .i64 b] 52)).cell? ⟨w.heap.size, 0, none⟩ = some (.int .i64 a) := HB.cell (i := 0) rfl
  have c1 : (w.alloc (.cells #[.int .i64 a, .int .i64 b] 52)).cell? ⟨w.heap.size, 1, none⟩ = some (.int .i64 b) := HB.cell (i := 1) rfl
  by_cases ha : a < 0
  · rw [decide_eq_true ha, Bool.true_or]
    have d : decide (a < 0) = true := decide_eq_true ha
    go_enter Tryd.func28, Tryd.ntmps28
    go_wp2_with (first | (refine ⟨trivial, ?_⟩) | (with_reducible refine And.intro (fun _ hf => (by cases hf)) ?_))
    go_ret
    exact ⟨rfl, (Ext.refl w).alloc _⟩
  · rw [decide_eq_false ha, Bool.false_or]
    have d : decide (a < 0) = false := decide_eq_false ha
    go_enter Tryd.func28, Tryd.ntmps28
    go_wp2_with (first | (refine ⟨trivial, ?_⟩) | (with_reducible refine And.intro (fun _ hf => (by cases hf)) ?_))
    go_ret
    exact ⟨rfl, (Ext.refl w).alloc _⟩
set_option maxHeartbeats 4000000 in
theorem idxneg_any (P : Option Addr) (cap : Nat) (l : List Ed) (w : World) (h : SlE w P cap l) :
    Calls Tryd.prog 46 #[.slice P l.length cap, .func (.func 28) #[] #[]] w fun e w' => (∃ z : Int, e = .returned (.int .i64 z) ∧ decide (0 ≤ z) = l.any negE) ∧ Ext w w' := by
  have hlen := h.len
  go_enter Tryd.func46, Tryd.ntmps46
  go_wp2
  go_loopw [8, 5] (fun i _ wr => ∃ k : Nat, k ≤ l.length ∧ i = .int .i64 k ∧ Hid (∀ (j : Nat) (y : Ed), j < k → l[j]? = some y → negE y = false) ∧ Ext w wr) (fun i _ _ => l.length - (intOf i).toNat)
  case atStart => exact ⟨0, by omega, rfl, Lib.hid (by intro j y hj; omega), Ext.refl w⟩
  case round =>
    obtain ⟨k, hk, rfl, hall, hx⟩ := hrel
    by_cases hlt : k < l.length
    · obtain ⟨x, hs⟩ : ∃ x, l[k]? = some x := ⟨_, List.getElem?_eq_getElem hlt⟩
      obtain ⟨b, off, hP, g0, g1⟩ := h.at2 k x hs
      subst hP
      replace g0 := hx.cell g0
      replace g1 := hx.cell g1
      have c1 : (k : Int) < l.length := by omega
      have d1 : IntKind.i64.wrap ((k : Int) + 1) = (k : Int) + 1 := IntWalk.i64_in _ ⟨by omega, by omega⟩
      have hV := negf_any x wr
      cases he : negE x with
      | true =>
        have Hn := Lib.hid (show decide (0 ≤ (k : Int)) = l.any negE from by
          rw [decide_eq_true (by omega)]
          exact (List.any_eq_true.2 ⟨x, List.mem_of_getElem? hs, he⟩).symm)
        rw [he] at hV
        clear hall hs he
        go_wp2_with (go_at_call 28; refine hV.mono ?_; rintro e w1 ⟨rfl, hx1⟩)
        go_ret
        exact ⟨⟨_, rfl, Hn.out⟩, hx.trans hx1⟩
      | false =>
        have Hy := Lib.hid (show ∀ (j : Nat) (y : Ed), j < k + 1 → l[j]? = some y → negE y = false from fun j y hj hy => by
          by_cases hjk : j = k
          · subst hjk; rw [hs] at hy; injection hy with hy; subst hy; exact he
          · exact hall.out j y (by omega) hy)
        rw [he] at hV
        clear hall hs he
        go_wp2_with (go_at_call 28; refine hV.mono ?_; rintro e w1 ⟨rfl, hx1⟩)
        go_roundw
        case rel => exact ⟨k + 1, by omega, by go_num, Hy, hx.trans hx1⟩
        case measure => simp [intOf]; omega
    · obtain rfl : k = l.length := by omega
      have Hn := Lib.hid (show decide ((0 : Int) ≤ -1) = l.any negE from by
        symm
        rw [show decide ((0 : Int) ≤ -1) = false from rfl, List.any_eq_false]
        intro x hx
        obtain ⟨j, hj, rfl⟩ := List.mem_iff_getElem.1 hx
        rw [hall.out j _ hj (List.getElem?_eq_getElem hj)]
        simp)
      clear hall
      go_wp2
      go_ret
      exact ⟨⟨_, rfl, Hn.out⟩, hx⟩
theorem containsneg_any (P : Option Addr) (cap : Nat) (l : List Ed) (w : World) (h : SlE w P cap l) :
    Calls Tryd.prog 27 #[.slice P l.length cap, .func (.func 28) #[] #[]] w fun e w' => e = .returned (.bool (l.any negE)) ∧ Ext w w' := by
  have hI := idxneg_any P cap l w h
  generalize l.any negE = bb at *
  go_enter Tryd.func27, Tryd.ntmps27
  go_wp2_with (go_at_call 46; refine hI.mono ?_; rintro e w1 ⟨⟨z, rfl, hz⟩, hx1⟩)
  go_ret
  exact ⟨rfl, hx1⟩
end
section
open Go.RowKit Go.Maps
set_option linter.unusedVariables false
set_option linter.unusedSimpArgs false
set_option linter.unusedSectionVars false
set_option maxRecDepth 100000

/-- how a slice reads: its block, its length, its room -/
def slElem (v : Value) : Option (DataW Unit × List MemPlace) :=
  match v with
  | .slice none n c => if n = 0 ∧ c = 0 then some (.nil, []) else none
  | .slice (some a) n c => if a.off = 0 ∧ a.spot = none then some (.agg [.lit (.int .i64 a.block), .lit (.int .i64 n), .lit (.int .i64 c)], []) else none
  | _ => none
/-- a slice from the start of its block -/
def SlV (v : Value) : Prop := v = .slice none 0 0 ∨ ∃ g n c, v = .slice (some ⟨g, 0, none⟩) n c
theorem slElem_inj {u v : Value} (hu : SlV u) {d : DataW Unit} {p q : List MemPlace} (h : slElem u = some (d, p)) (k : slElem v = some (d, q)) : v = u := by
  rcases hu with rfl | ⟨g, n, c, rfl⟩
  · simp only [slElem, and_self, if_true, Option.some.injEq, Prod.mk.injEq] at h
    obtain ⟨rfl, rfl⟩ := h
    unfold slElem at k
    split at k
    · split at k
      · next hc => obtain ⟨rfl, rfl⟩ := hc; rfl
      · cases k
    · split at k
      · simp at k
      · cases k
    · cases k
  · simp only [slElem, and_self, if_true, Option.some.injEq, Prod.mk.injEq] at h
    obtain ⟨rfl, rfl⟩ := h
    unfold slElem at k
    split at k
    · split at k
      · simp at k
      · cases k
    · rename_i a n' c'
      split at k
      · next hc =>
        obtain ⟨b, off, spot⟩ := a
        simp at k hc
        obtain ⟨rfl, rfl⟩ := hc
        obtain ⟨⟨h1, h2, h3⟩, _⟩ := k
        rw [show b = g from by omega, show n' = n from by omega, show c' = c from by omega]
      · cases k
    · cases k
theorem slElem_some {v : Value} (h : SlV v) : ∃ d, slElem v = some (d, []) := by
  rcases h with rfl | ⟨g, n, c, rfl⟩ <;> simp [slElem]
/-- block b is a map with these keys and slices -/
def SlM (w : World) (b N : Nat) (l : List (Int × Value)) : Prop :=
  ∃ (D : DataW Unit) (n : Nat), n ≤ N ∧ w.ownsMap Tryd.prog 3 slElem b n D ∧ (∀ x v, (x, v) ∈ l → SlV v ∧ has D (.int .i64 x) = true ∧ ∀ z, slElem v = some (D.atKey (.int .i64 x) z, [])) ∧ ∀ x, x ∉ l.map (·.1) → has D (.int .i64 x) = false
theorem SlM.made (w : World) : SlM (w.alloc (.map #[] 0)) w.heap.size 0 [] :=
  ⟨.map [], 0, by simp, World.ownsMap_made _ _ _ _, fun x v h => by simp at h, fun x _ => by simp [has]⟩
theorem SlM.same {w w' : World} {b N : Nat} {l : List (Int × Value)} (h : SlM w b N l) (he : w'.heap[b]? = w.heap[b]?) : SlM w' b N l := by
  obtain ⟨D, n, hn, ⟨es, clock, hb, r'⟩, r⟩ := h
  exact ⟨D, n, hn, ⟨es, clock, he.trans hb, r'⟩, r⟩
theorem SlM.lt {w : World} {b N : Nat} {l : List (Int × Value)} (h : SlM w b N l) : b < w.heap.size := by obtain ⟨D, n, _, h, _⟩ := h; exact h.lt
theorem SlM.ext {w w' : World} {b N : Nat} {l : List (Int × Value)} (h : SlM w b N l) (he : Ext w w') : SlM w' b N l := h.same (he.block h.lt)
theorem SlM.noCells {w : World} {b N : Nat} {l : List (Int × Value)} (h : SlM w b N l) : NoCells w b := by
  obtain ⟨D, n, hn, ⟨es, clock, hb, r'⟩, r⟩ := h
  exact ⟨_, hb, fun c t fr e => by cases e⟩
/-- what lies under a key -/
def atS (l : List (Int × Value)) (x : Int) : Value := match l.find? fun e => decide (e.1 = x) with
  | some e => e.2
  | none => .slice none 0 0
theorem SlM.look {w : World} {b N : Nat} {l : List (Int × Value)} (h : SlM w b N l) {t e : TypeId} (ht : Tryd.prog.underlying t = some (.map 3 e)) (hz : (zeroValue e).run Tryd.prog w = .ok (.slice none 0 0) w) {x : Int} (hkey : keyOf Tryd.prog 3 (.int .i64 x) = some (.int .i64 x)) :
    (Instr.lookup t (.map (some b)) (.int .i64 x) false).run Tryd.prog w = .ok (atS l x) w := by
  obtain ⟨D, n, hn, hown, hh, hno⟩ := h
  obtain ⟨v, ps, hrun, hv⟩ := hown.lookup keyedI ht hz (zd := .nil) (zp := []) (by simp [slElem]) hkey
  rw [hrun]
  congr 1
  unfold atS
  cases hf : l.find? (fun e => decide (e.1 = x)) with
  | none =>
    have hx : x ∉ l.map (·.1) := fun hm => by
      obtain ⟨e, he, e1⟩ := List.mem_map.1 hm
      rw [List.find?_eq_none] at hf
      exact hf e he (by simpa using e1)
    rw [atKey_of_not_has (hno x hx)] at hv
    exact slElem_inj (.inl rfl) (d := .nil) (p := []) (by simp [slElem]) hv
  | some e =>
    have h1 := List.find?_some hf
    have h2 := List.mem_of_find?_eq_some hf
    obtain ⟨k, u⟩ := e
    have hk : k = x := by simpa using h1
    subst hk
    obtain ⟨hs, _, hat⟩ := hh _ _ h2
    exact slElem_inj hs (hat .nil) hv
/-- a slice laid under a key -/
def putS (l : List (Int × Value)) (x : Int) (v : Value) : List (Int × Value) := (l.filter fun e => !decide (e.1 = x)) ++ [(x, v)]
theorem putS_len (l : List (Int × Value)) (x : Int) (v : Value) : (putS l x v).length ≤ l.length + 1 := by
  unfold putS
  rw [List.length_append]
  have := List.length_filter_le (fun e : Int × Value => !decide (e.1 = x)) l
  simp
  omega
theorem mem_putS {l : List (Int × Value)} {x y : Int} {v u : Value} : (y, u) ∈ putS l x v ↔ (y = x ∧ u = v) ∨ ((y, u) ∈ l ∧ y ≠ x) := by
  unfold putS
  rw [List.mem_append, List.mem_filter, List.mem_singleton, Prod.mk.injEq]
  simp
  constructor
  · rintro (h | h)
    · exact .inr h
    · exact .inl h
  · rintro (h | h)
    · exact .inr h
    · exact .inl h
theorem SlM.store {w : World} {b N : Nat} {l : List (Int × Value)} (h : SlM w b N l) {t e : TypeId} (ht : Tryd.prog.underlying t = some (.map 3 e)) (hN : N < 9223372036854775807) {x : Int} {v : Value} (hv : SlV v) (hkey : keyOf Tryd.prog 3 (.int .i64 x) = some (.int .i64 x)) :
    ∃ w', (Instr.mapUpdate t (.map (some b)) (.int .i64 x) v).run Tryd.prog w = .ok () w' ∧ SlM w' b (N + 1) (putS l x v) ∧ w.grownBy w' (some b) := by
  obtain ⟨D, n, hn, hown, hh, hno⟩ := h
  have hT := hown.tidy keyedI
  obtain ⟨d, hd⟩ := slElem_some hv
  obtain ⟨w', hrun, hown', hg⟩ := hown.update keyedI ht (Nat.lt_of_le_of_lt hn hN) hkey hd
  have hlit : WideAt.IsKeyLit (.int .i64 x) := trivial
  refine ⟨w', hrun, ⟨_, n + 1, by omega, hown', fun y u hy => ?_, fun y hy => ?_⟩, hg⟩
  · rcases mem_putS.1 hy with ⟨rfl, rfl⟩ | ⟨h1, h2⟩
    · exact ⟨hv, has_put_same hT.isMap hlit _, fun z => by rw [atKey_put_same hT.isMap hlit]; exact hd⟩
    · obtain ⟨a, b, c⟩ := hh y u h1
      exact ⟨a, by rw [has_put_other (fun e => h2 (by simpa using e))]; exact b, fun z => by rw [atKey_put_other (fun e => h2 (by simpa using e))]; exact c z⟩
  · have hyx : y ≠ x := fun e => hy (by rw [List.mem_map]; exact ⟨(x, v), mem_putS.2 (.inl ⟨rfl, rfl⟩), e.symm⟩)
    rw [has_put_other (fun e => hyx (by simpa using e))]
    refine hno y (fun hm => hy ?_)
    obtain ⟨⟨k, u⟩, h1, h2⟩ := List.mem_map.1 hm
    simp only at h2
    subst h2
    exact List.mem_map.2 ⟨(k, u), mem_putS.2 (.inr ⟨h1, hyx⟩), rfl⟩
end
section
open Go.RowKit
set_option linter.unusedVariables false
set_option maxRecDepth 20000
section
variable {P : Program} {md : Region.Mode} {ops : Array Oper} {Q : Exit → Act → World → Prop} {C : World → Prop} {m : Nat}

/-- As the kit's word, but C is asked only while operation m has not come up. -/
def wpAnyF (P : Program) (md : Region.Mode) (ops : Array Oper) (Q : Exit → Act → World → Prop) (C : World → Prop) (m : Nat) : Nat → Array Bool → Act → World → Prop
  | 0, listed, a, w => Region.ready md ops listed = [] ∧ Q .normal a w
  | fuel + 1, listed, a, w =>
    (Region.ready md ops listed = [] → Q .normal a w) ∧
    ∀ i ∈ Region.ready md ops listed, wpOp P ops Q i (fun a' w' => ((listed.setIfInBounds i true).getD m true = false → C w') ∧ wpAnyF P md ops Q C m fuel (listed.setIfInBounds i true) a' w') a w
theorem wpAny_of_F : ∀ (fuel : Nat) (listed : Array Bool) (a : Act) (w : World), wpAnyF P md ops Q C m fuel listed a w → wpAny P md ops Q fuel listed a w
  | 0, _, _, _, h => h
  | fuel + 1, _, _, _, h => ⟨h.1, fun i hi => wpOp_mono (fun a' w' h' => wpAny_of_F fuel _ a' w' h'.2) (h.2 i hi)⟩
theorem wpAnyF_first {i : Nat} {oi om : Oper} {v : Value} (hi : ops[i]? = some oi) (hm : ops[m]? = some om) (hmi : ∃ e ∈ om.after, Region.binds md e = true ∧ e.on = i) (hne : m ≠ i)
    (hsel : ∀ (j : Nat) (o : Oper) cs b, ops[j]? = some o → o.op ≠ .select cs b) (hQ : ∀ c a w, Q (.panic c) (a.put oi.dst v) w → Q (.panic c) a w) :
    ∀ (fuel : Nat) (listed : Array Bool) (a : Act) (w : World),
      (∀ j oj, ops[j]? = some oj → j ≠ i → listed.getD j true = false → (∀ e ∈ oj.after, Region.binds md e = true → e.on ≠ i) → oi.apart ops oj = true) →
      i ∈ Region.ready md ops listed → YieldsIf P ops C oi v a → C w → listed.getD m true = false →
      wpAnyF P md ops Q C m fuel (listed.setIfInBounds i true) (a.put oi.dst v) w → wpAnyF P md ops Q C m (fuel + 1) listed a w := by
  intro fuel
  induction fuel with
  | zero =>
    intro listed a w _ hr hy hC hl H
    refine ⟨fun h => (by rw [h] at hr; cases hr), fun j hj => ?_⟩
    by_cases hji : j = i
    · subst hji; exact hy.wpOp hi hC ⟨fun _ => hC, H⟩
    · have := ready_mono hj hji
      rw [H.1] at this
      cases this
  | succ fuel ih =>
    intro listed a w hfree hr hy hC hl H
    refine ⟨fun h => (by rw [h] at hr; cases hr), fun j hj => ?_⟩
    by_cases hji : j = i
    · subst hji; exact hy.wpOp hi hC ⟨fun _ => hC, H⟩
    · have h1 := H.2 j (ready_mono hj hji)
      obtain ⟨hjun, oj, hoj, hall⟩ := mem_ready.1 hj
      have hnot : ∀ e ∈ oj.after, Region.binds md e = true → e.on ≠ i := fun e he hb heq => by
        have h1 := hall e he hb
        have h0 := (mem_ready.1 hr).1
        rw [heq] at h1
        rcases Nat.lt_or_ge i listed.size with h' | h'
        · simp [h'] at h0 h1; rw [h0] at h1; cases h1
        · simp [Array.getElem?_eq_none h'] at h1
      have hjm : j ≠ m := fun e => by
        subst e
        rw [hoj] at hm
        injection hm with hm
        subst hm
        obtain ⟨x, hx, hb, he⟩ := hmi
        exact hnot x hx hb he
      have hlm : ((listed.setIfInBounds i true).setIfInBounds j true).getD m true = false := by
        rw [getD_set_ne true hjm, getD_set_ne true (Ne.symm hne)]; exact hl
      have h2 := wpOp_putIf hoj (hfree j oj hoj hji hjun hnot) (fun cs b => hsel i oi cs b hi) (fun cs b => hsel j oj cs b hoj) hQ hy h1
      have hfree' : ∀ k ok, ops[k]? = some ok → k ≠ i → (listed.setIfInBounds j true).getD k true = false →
          (∀ e ∈ ok.after, Region.binds md e = true → e.on ≠ i) → oi.apart ops ok = true := fun k ok hk hki hun hno => by
        refine hfree k ok hk hki ?_ hno
        by_cases hjk : j = k
        · subst hjk; exact hjun
        · rw [getD_set_ne true hjk] at hun; exact hun
      refine wpOp_mono (fun a' w' h3 => ⟨fun _ => h3.2.1 hlm, ih (listed.setIfInBounds j true) a' w' hfree' (ready_mono hr (Ne.symm hji)) h3.1 (h3.2.1 hlm) (by rw [getD_set_ne true hjm]; exact hl) ?_⟩) h2
      rw [Array.setIfInBounds_comm _ _ hji]
      exact h3.2.2
theorem wpAnyF_take {i : Nat} {oi : Oper} {v : Value} {fuel : Nat} {listed : Array Bool} {a : Act} {w : World} (hi : ops[i]? = some oi)
    (hb : (match ops[m]? with | some om => om.after.any fun e => Region.binds md e && (e.on == i) | none => false) = true) (hne : (m == i) = false)
    (hs : Region.noSelect ops = true) (hf : Region.free md ops listed i = true) (hr : (Region.ready md ops listed).contains i = true) (hl : listed.getD m true = false)
    (hQ : ∀ c a w, Q (.panic c) (a.put oi.dst v) w → Q (.panic c) a w) (hy : YieldsIf P ops C oi v a) (hC : C w)
    (h : wpAnyF P md ops Q C m fuel (listed.setIfInBounds i true) (a.put oi.dst v) w) : wpAnyF P md ops Q C m (fuel + 1) listed a w := by
  cases hm : ops[m]? with
  | none => rw [hm] at hb; cases hb
  | some om =>
    rw [hm] at hb
    have hb' : ∃ e ∈ om.after, Region.binds md e = true ∧ e.on = i := by
      simp only [Array.any_eq_true, Bool.and_eq_true, beq_iff_eq] at hb
      obtain ⟨k, hk, h1, h2⟩ := hb
      exact ⟨_, Array.getElem_mem hk, h1, h2⟩
    exact wpAnyF_first hi hm hb' (by simpa using hne) (Region.noSelect_spec hs) hQ fuel listed a w (Region.free_spec hi hf) (by simpa using hr) hy hC hl h
theorem wpAnyF_one {i : Nat} {o : Oper} {fuel : Nat} {listed : Array Bool} {a : Act} {w : World} (ho : ops[i]? = some o) (hr : Region.ready md ops listed = [i]) (hw : Region.wanted o (yielded ops a.tmps) = true)
    (h : ∀ K' : Act → World → Prop, (∀ a' w', ((listed.setIfInBounds i true).getD m true = false → C w') → wpAnyF P md ops Q C m fuel (listed.setIfInBounds i true) a' w' → K' a' w') → o.wp P a w K' Q) : wpAnyF P md ops Q C m (fuel + 1) listed a w := by
  refine ⟨fun h0 => (by rw [hr] at h0; cases h0), fun j hj => ?_⟩
  rw [hr] at hj
  obtain rfl : j = i := by simpa using hj
  exact wpOp_here ho hw fun K' hK => h K' fun a' w' h1 h2 => hK a' w' ⟨h1, h2⟩
theorem wpAnyF_two {i j : Nat} {o o' : Oper} {fuel : Nat} {listed : Array Bool} {a : Act} {w : World} (ho : ops[i]? = some o) (ho' : ops[j]? = some o') (hr : Region.ready md ops listed = [i, j])
    (hw : Region.wanted o (yielded ops a.tmps) = true) (hw' : Region.wanted o' (yielded ops a.tmps) = true)
    (h : ∀ K' : Act → World → Prop, (∀ a' w', ((listed.setIfInBounds i true).getD m true = false → C w') → wpAnyF P md ops Q C m fuel (listed.setIfInBounds i true) a' w' → K' a' w') → o.wp P a w K' Q)
    (h' : ∀ K' : Act → World → Prop, (∀ a' w', ((listed.setIfInBounds j true).getD m true = false → C w') → wpAnyF P md ops Q C m fuel (listed.setIfInBounds j true) a' w' → K' a' w') → o'.wp P a w K' Q) : wpAnyF P md ops Q C m (fuel + 1) listed a w := by
  refine ⟨fun h0 => (by rw [hr] at h0; cases h0), fun k hk => ?_⟩
  rw [hr] at hk
  have hk' : k = i ∨ k = j := by simpa using hk
  rcases hk' with rfl | rfl
  · exact wpOp_here ho hw fun K' hK => h K' fun a' w' h1 h2 => hK a' w' ⟨h1, h2⟩
  · exact wpOp_here ho' hw' fun K' hK => h' K' fun a' w' h1 h2 => hK a' w' ⟨h1, h2⟩
theorem wpAnyF_done {listed : Array Bool} {a : Act} {w : World} (hr : Region.ready md ops listed = []) (h : Q .normal a w) : ∀ fuel, wpAnyF P md ops Q C m fuel listed a w
  | 0 => ⟨hr, h⟩
  | _ + 1 => ⟨fun _ => h, by rw [hr]; simp⟩
/-- the beginning -/
theorem wp_region_F {id : Nat} {a : Act} {w : World} (C : World → Prop) (m : Nat) (hm : P.follows .mixedOrders = true)
    (h : wpAnyF P .any ops Q C m ops.size (Array.replicate ops.size false) a { w with drawn := w.drawn + 1 }) : (Code.region id ops true).wp P Q a w :=
  wp_region_any hm (wpAny_of_F _ _ _ _ h)
end
end
section
open Go.RowKit Go.Maps
set_option linter.unusedVariables false
set_option linter.unusedSimpArgs false
set_option linter.unusedSectionVars false
set_option maxRecDepth 100000
attribute [local go_sem] Oper.semAt_some

/-- where edges lead to from a number, in their order -/
def outE (es : List Ed) (x : Int) : List Int := (es.filter fun e => decide (e.1 = x)).map (·.2)
theorem outE_snoc (es : List Ed) (e : Ed) (x : Int) : outE (es ++ [e]) x = if e.1 = x then outE es x ++ [e.2] else outE es x := by
  unfold outE
  rw [List.filter_append, List.map_append]
  by_cases h : e.1 = x
  · rw [if_pos h]; simp [h]
  · rw [if_neg h]; simp [h]
theorem nextU_out (es : List Ed) (x : Int) : nextU es x = sortU (outE es x) := rfl
theorem outE_len (es : List Ed) (x : Int) : (outE es x).length ≤ es.length := by
  unfold outE
  rw [List.length_map]
  exact List.length_filter_le _ _
/-- the map at m tells where the edges lead to -/
structure EdM (w : World) (base m : Nat) (es : List Ed) : Prop where
  ex : ∃ l : List (Int × Value), SlM w m es.length l ∧ (∀ x v, (x, v) ∈ l → OwnI w base v (outE es x)) ∧ (∀ x, x ∉ l.map (·.1) → outE es x = []) ∧ (l.map (·.1)).Nodup ∧ ∀ x v y u g, (x, v) ∈ l → (y, u) ∈ l → x ≠ y → v.ownBlock = some g → u.ownBlock ≠ some g
theorem EdM.ext {w w' : World} {base m : Nat} {es : List Ed} (h : EdM w base m es) (hx : Ext w w') : EdM w' base m es := by
  obtain ⟨l, h1, h2, h3, h4, h5⟩ := h.ex
  exact ⟨l, h1.ext hx, fun x v hv => (h2 x v hv).ext hx, h3, h4, h5⟩
theorem EdM.made (w : World) (base : Nat) : EdM (w.alloc (.map #[] 0)) base w.heap.size [] :=
  ⟨[], SlM.made w, fun x v h => by simp at h, fun x _ => rfl, by simp, fun x v y u g h => by simp at h⟩
theorem EdM.lt {w : World} {base m : Nat} {es : List Ed} (h : EdM w base m es) : m < w.heap.size := by
  obtain ⟨l, h1, _⟩ := h.ex
  exact h1.lt
theorem own_slv {w : World} {base : Nat} {v : Value} {l : List Int} (h : OwnI w base v l) : SlV v := by
  rcases h.2 with ⟨rfl, _⟩ | ⟨g, cap, cur, rfl, _⟩
  · exact .inl rfl
  · exact .inr ⟨_, _, _, rfl⟩
theorem zeroS (w : World) : (zeroValue 30).run Tryd.prog w = .ok (.slice none 0 0) w := by kernel_rfl
theorem atS_mem (l : List (Int × Value)) (x : Int) : (atS l x).ownBlock = none ∨ (x, atS l x) ∈ l := by
  unfold atS
  cases hf : l.find? (fun e => decide (e.1 = x)) with
  | none => exact .inl rfl
  | some e =>
    have a1 := List.find?_some hf
    have a2 := List.mem_of_find?_eq_some hf
    obtain ⟨k, u⟩ := e
    have hk : k = x := by simpa using a1
    subst hk
    exact .inr a2
theorem atS_own {w : World} {base : Nat} {es : List Ed} {l : List (Int × Value)} (h2 : ∀ x v, (x, v) ∈ l → OwnI w base v (outE es x)) (h3 : ∀ x, x ∉ l.map (·.1) → outE es x = []) (x : Int) : OwnI w base (atS l x) (outE es x) := by
  unfold atS
  cases hf : l.find? (fun e => decide (e.1 = x)) with
  | none =>
    have hx : x ∉ l.map (·.1) := fun hm => by
      obtain ⟨e, he, e1⟩ := List.mem_map.1 hm
      rw [List.find?_eq_none] at hf
      exact hf e he (by simpa using e1)
    rw [h3 x hx]
    exact OwnG.nil _ _ _ _ _
  | some e =>
    have a1 := List.find?_some hf
    have a2 := List.mem_of_find?_eq_some hf
    obtain ⟨k, u⟩ := e
    have hk : k = x := by simpa using a1
    subst hk
    exact h2 _ _ a2
/-- what lies under a number: a slice of its own -/
theorem EdM.look {w : World} {base m : Nat} {es : List Ed} (h : EdM w base m es) {x : Int} (hkey : keyOf Tryd.prog 3 (.int .i64 x) = some (.int .i64 x)) :
    ∃ v, (Instr.lookup 54 (.map (some m)) (.int .i64 x) false).run Tryd.prog w = .ok v w ∧ OwnI w base v (outE es x) ∧ (∀ W, W.heap[m]? = w.heap[m]? → (Instr.lookup 54 (.map (some m)) (.int .i64 x) false).run Tryd.prog W = .ok v W) := by
  obtain ⟨l, h1, h2, h3, h4, h5⟩ := h.ex
  exact ⟨atS l x, h1.look Tryd.underlying54 (zeroS w) hkey, atS_own h2 h3 x, fun W hW => (h1.same hW).look Tryd.underlying54 (zeroS W) hkey⟩
/-- one edge more -/
theorem EdM.step {w : World} {base m : Nat} {es : List Ed} (h : EdM w base m es) (e : Ed) (hkey : keyOf Tryd.prog 3 (.int .i64 e.1) = some (.int .i64 e.1)) (hlen : es.length < 100000) (hbase : base ≤ w.heap.size) (ty : TypeId) :
    ∃ v v' w1 w2, (Instr.lookup 54 (.map (some m)) (.int .i64 e.1) false).run Tryd.prog w = .ok v w ∧ (∀ W, W.heap[m]? = w.heap[m]? → (Instr.lookup 54 (.map (some m)) (.int .i64 e.1) false).run Tryd.prog W = .ok v W) ∧
      (Builtin.append_ #[30, 30] ty #[v, .slice (some ⟨w.heap.size, 0, none⟩) 1 1]).run Tryd.prog (w.alloc (.cells #[.int .i64 e.2] 3)) = .ok v' w1 ∧
      (Instr.mapUpdate 54 (.map (some m)) (.int .i64 e.1) v').run Tryd.prog w1 = .ok () w2 ∧ EdM w2 base m (es ++ [e]) ∧ UpdF (fun i => i = m ∨ base ≤ i) w w2 ∧ UpdF (fun i => v.ownBlock = some i) (w.alloc (.cells #[.int .i64 e.2] 3)) w1 ∧ SlV v' ∧ OwnI w base v (outE es e.1) ∧ v.ownBlock ≠ some m := by
  obtain ⟨l, h1, h2, h3, h4, h5⟩ := h.ex
  have hr1 := h1.look Tryd.underlying54 (zeroS w) hkey
  have hr2 := fun W (hW : W.heap[m]? = w.heap[m]?) => (h1.same hW).look Tryd.underlying54 (zeroS W) hkey
  have ho := atS_own h2 h3 e.1
  have hvm := atS_mem l e.1
  generalize atS l e.1 = v at *
  have hoa := ho.ext ((Ext.refl w).alloc (.cells #[.int .i64 e.2] 3))
  have hol := outE_len es e.1
  obtain ⟨v', w1, hr3, ho1, hg1, hb1, hob⟩ := OwnG.append2 (l := outE es e.1) (m := [e.2]) elemI ty hoa (SlG.one elemI.hk e.2 rfl rfl) (fun e => by cases e) (by simp; omega) (by simp; omega) (by rw [World.size_alloc]; omega)
  have hbel : ∀ i, v.ownBlock = some i → base ≤ i := fun i hi => ho.base_ i hi
  have hnc := h1.noCells
  have hmne : v.ownBlock ≠ some m := fun hh => hnc.own ho m hh rfl
  have hM1 : SlM w1 m es.length l := (h1.ext ((Ext.refl w).alloc (.cells #[.int .i64 e.2] 3))).same (hg1.block m (by rw [World.size_alloc]; have := h1.lt; omega) (fun e => hmne e.symm))
  obtain ⟨w2, hr4, hM2, hg2⟩ := hM1.store Tryd.underlying54 (by omega) (own_slv ho1) hkey
  have hu1 : UpdF (fun i => base ≤ i) (w.alloc (.cells #[.int .i64 e.2] 3)) w1 := (UpdF.of_grown hg1).mono (fun i hi => hbel i hi)
  have hu2 : UpdF (fun i => i = m) w1 w2 := (UpdF.of_grown hg2).mono (fun i hi => by injection hi with hi; exact hi.symm)
  have hnc1 : NoCells w1 m := hM1.noCells
  refine ⟨v, v', w1, w2, hr1, hr2, hr3, hr4, ⟨putS l e.1 v', ?_, ?_, ?_, ?_, ?_⟩, ?_, (UpdF.of_grown hg1), own_slv ho1, ho, hmne⟩
  · rw [List.length_append]; exact hM2
  · intro x u hu
    rw [outE_snoc]
    rcases mem_putS.1 hu with ⟨rfl, rfl⟩ | ⟨hx, hne⟩
    · rw [if_pos rfl]
      exact ho1.upd hu2 (fun g hg => hnc1.own ho1 g hg)
    · rw [if_neg (fun e => hne e.symm)]
      have o1 := (h2 x u hx).ext ((Ext.refl w).alloc (.cells #[.int .i64 e.2] 3))
      have o2 : OwnI w1 base u (outE es x) := o1.kept hg1 (by
        cases hb : u.ownBlock with
        | none => exact .inl rfl
        | some g =>
          refine .inr (fun hh => ?_)
          rcases hvm with h6 | h6
          · rw [h6] at hh; cases hh
          · exact h5 e.1 v x u g h6 hx (fun e => hne e.symm) hh.symm hb)
      exact o2.upd hu2 (fun g hg => hnc1.own o2 g hg)
  · intro x hx
    rw [outE_snoc]
    have hxe : x ≠ e.1 := fun hh => hx (List.mem_map.2 ⟨(e.1, v'), mem_putS.2 (.inl ⟨rfl, rfl⟩), hh.symm⟩)
    rw [if_neg (fun e => hxe e.symm)]
    refine h3 x (fun hm => hx ?_)
    obtain ⟨⟨k, u⟩, a1, a2⟩ := List.mem_map.1 hm
    simp only at a2
    subst a2
    exact List.mem_map.2 ⟨(k, u), mem_putS.2 (.inr ⟨a1, hxe⟩), rfl⟩
  · unfold putS
    rw [List.map_append, List.nodup_append]
    refine ⟨List.Nodup.sublist (List.filter_sublist.map _) h4, by simp, fun a ha b hb hab => ?_⟩
    simp at hb
    subst hb hab
    obtain ⟨y, hy, e1⟩ := List.mem_map.1 ha
    have := (List.mem_filter.1 hy).2
    simp at this
    exact this e1
  · have hnew : ∀ g y u, (y, u) ∈ l → y ≠ e.1 → v'.ownBlock = some g → u.ownBlock ≠ some g := fun g y u hu hy hg hug => by
      rcases hob with hh | hh
      · rw [hh] at hg
        rcases hvm with h6 | h6
        · rw [h6] at hg; cases hg
        · exact h5 e.1 v y u g h6 hu (fun e => hy e.symm) hg hug
      · rw [hh] at hg
        injection hg with hg
        have := (own_lt (h2 y u hu) hug).2
        rw [World.size_alloc] at hg
        omega
    intro x v1 y u g hx hy hxy hg hug
    rcases mem_putS.1 hx with ⟨rfl, rfl⟩ | ⟨hx1, hx2⟩
    · rcases mem_putS.1 hy with ⟨rfl, rfl⟩ | ⟨hy1, hy2⟩
      · exact hxy rfl
      · exact hnew g y u hy1 hy2 hg hug
    · rcases mem_putS.1 hy with ⟨rfl, rfl⟩ | ⟨hy1, hy2⟩
      · exact hnew g x v1 hx1 hx2 hug hg
      · exact h5 x v1 y u g hx1 hy1 hxy hg hug
  · refine ((UpdF.of_ext ((Ext.refl w).alloc _) _).trans (hu1.mono (fun i hi => .inr hi))).trans (hu2.mono (fun i hi => .inl hi))
end
end Go.Proofs.YtaciedooeeklpaaDoor
