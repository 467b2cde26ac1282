/- PcC; Held; PcM; PcN (merged by group.py) -/
import Derived.Test.YtcbainmpikcfjaaQ10
import Derived.Test.YtcbainmpikcfjaaQ01
import Derived.OrdersHeld
import Derived.Test.YtcbainmpikcfjaaQ00
import Derived.Maps.OwnSet
import Derived.Maps.OwnOps
import Derived.Maps.RangeWalk
namespace Go.Proofs.Ytcbainmpikcfjaa
section
open Go.RowKit
set_option linter.unusedVariables false
set_option linter.unusedSimpArgs false
set_option linter.unusedSectionVars false
set_option maxRecDepth 20000

theorem bytes_own {w : World} (L : List UInt8) (C : Array Value) (hC : C.toList = L.flatMap csB) (hl : L.length ≤ 1000) {base B n : Nat} (hB : w.heap.size = B) (hn : L.length = n) (hb : base ≤ w.heap.size) : OwnB (w.alloc (.cells C 5)) base (.slice (some ⟨B, 0, none⟩) n n) L := by
  subst hB hn
  have hs : C.size = L.length * 1 := by rw [← Array.length_toList, hC, flatB]; simp
  have h := World.ownsRow_lit (e := 5) (size := 1) w C L.length hb (by unfold maxLen; omega) hs
  rw [hC] at h
  exact h
/-- bytes of one's own as a text -/
theorem own_text {w : World} {base g c n : Nat} {L : List UInt8} (h : OwnB w base (.slice (some ⟨g, 0, none⟩) n c) L) (hn : L.length = n) (hl : n ≤ 1000000) :
    (convert 60 9 (.slice (some ⟨g, 0, none⟩) n c)).run Try.prog w = .ok (.string ⟨L.toArray⟩) w := by
  subst hn
  obtain ⟨PF, cF, eF, hSF⟩ := h.slG elemB (by omega)
  simp only [Value.slice.injEq] at eF
  obtain ⟨rfl, _, rfl⟩ := eF
  exact run_convert_bytes_back (P := Try.prog) w 60 9 5 ⟨g, 0, none⟩ c L Try.underlying60 Try.underlying5 Try.underlying9 (fun j hj => by
    obtain ⟨b', o', e', hc⟩ := hSF.at_ j _ (List.getElem?_eq_getElem hj)
    simp only [Option.some.injEq, Addr.mk.injEq, and_true] at e'
    obtain ⟨rfl, rfl⟩ := e'
    have := hc 0 _ rfl
    rw [add_flat, Nat.zero_add]
    simpa using this)
theorem bytes_app (L : List UInt8) (p : ByteArray) : (⟨L.toArray⟩ : ByteArray) ++ p = ⟨(L ++ p.data.toList).toArray⟩ := by
  apply ByteArray.ext
  simp [ByteArray.data_append]

set_option maxHeartbeats 1000000 in
theorem framed_zero (k all : Int) (p q : Int) (part : ByteArray) (w : World) (hk : 0 ≤ k ∧ k ≤ 1000000) (ha : 0 ≤ all ∧ all ≤ 4000) (h1 : 0 ≤ p ∧ p ≤ 1000) (h2 : 0 ≤ q ∧ q ≤ 1000) (hp : part.size ≤ 4000) :
    Calls Try.prog 13 #[.int .i64 k, .int .i64 0, .int .i64 all, .agg #[.int .i64 p, .int .i64 q], .string part] w fun e w' => e = .returned (.string (frB k all 0 (p, q) part)) ∧ Ext w w' := by
  obtain ⟨g0, g1, _, _⟩ := addr_box (w := w) (.int .i64 p) (.int .i64 q) (Ext.refl _)
  have hx1 := (Ext.refl w).alloc (.cells #[.int .i64 p, .int .i64 q] 38)
  have hs1 : (w.alloc (.cells #[.int .i64 p, .int .i64 q] 38)).heap.size = w.heap.size + 1 := by simp
  have hfr : frH k all 0 (p, q) = headL 65 k all (p, q) := if_pos rfl
  have HE := Lib.hid (show frB k all 0 (p, q) part = ⟨(headL 65 k all (p, q) ++ part.data.toList).toArray⟩ from by unfold frB; rw [hfr])
  unfold headL at HE
  have e1 := by8_wrap (k / 16777216)
  have e2 := by8_wrap (k / 65536)
  have e3 := by8_wrap (k / 256)
  have e4 := by8_wrap k
  have e5 := by8_wrap (all / 256)
  have e6 := by8_wrap all
  have e7 := by8_wrap (p / 256)
  have e8 := by8_wrap p
  have e9 := by8_wrap q
  dsimp only at HE
  generalize by8 (k / 16777216) = x1 at *
  generalize by8 (k / 65536) = x2 at *
  generalize by8 (k / 256) = x3 at *
  generalize by8 k = x4 at *
  generalize by8 (all / 256) = x5 at *
  generalize by8 all = x6 at *
  generalize by8 (p / 256) = x7 at *
  generalize by8 p = x8 at *
  generalize by8 q = x9 at *
  clear hfr
  obtain ⟨W1, hW1⟩ : ∃ W1, w.alloc (.cells #[.int .i64 p, .int .i64 q] 38) = W1 := ⟨_, rfl⟩
  rw [hW1] at g0 g1 hx1 hs1
  have HO := Lib.hid (bytes_own (w := W1) (base := W1.heap.size) [65, x1, x2, x3, x4, x5, x6, x7, x8, x9] #[.int .u8 65, .int .u8 x1.toNat, .int .u8 x2.toNat, .int .u8 x3.toNat, .int .u8 x4.toNat, .int .u8 x5.toNat, .int .u8 x6.toNat, .int .u8 x7.toNat, .int .u8 x8.toNat, .int .u8 x9.toNat] rfl (by simp) hs1 rfl (Nat.le_refl _))
  obtain ⟨FF, hFF⟩ : ∃ FF, ([65, x1, x2, x3, x4, x5, x6, x7, x8, x9] ++ part.data.toList : List UInt8) = FF := ⟨_, rfl⟩
  have HFL := Lib.hid (show FF.length = 10 + part.size from by rw [← hFF]; simp; omega)
  rw [hFF] at HE
  have HFF := Lib.hid hFF
  clear hFF
  go_enter Try.func13, Try.ntmps13
  go_wp2_with (first
    | (at_builtin; refine wpList_app_text rfl _ _ rfl rfl HO.out rfl ?d3 ?d4 ?_))
  case d3 => first | (simp; done) | (simp; omega)
  case d4 => simp
  intro v6 w6 ho6 hb6
  replace ho6 : OwnB w6 (w.heap.size + 1) v6 FF := by
    rw [← HFF.out]
    exact ho6
  have hx6 := below_ext (hx1.alloc _) hb6 (by omega)
  have HL6 := Lib.hid ho6
  obtain ⟨gf, cf, rfl, _, _, _, _⟩ := ho6.tight (by have := HFL.out; omega)
  have hcv := own_text HL6.out rfl (by have := HFL.out; omega)
  go_wp2
  go_ret
  exact ⟨by rw [HE.out]; rfl, hx6⟩
set_option maxHeartbeats 1000000 in
theorem framed_more (k n all : Int) (p q : Int) (part : ByteArray) (w : World) (hk : 0 ≤ k ∧ k ≤ 1000000) (hn : 0 < n ∧ n ≤ 4100) (ha : 0 ≤ all ∧ all ≤ 4000) (h1 : 0 ≤ p ∧ p ≤ 1000) (h2 : 0 ≤ q ∧ q ≤ 1000) (hp : part.size ≤ 4000) :
    Calls Try.prog 13 #[.int .i64 k, .int .i64 n, .int .i64 all, .agg #[.int .i64 p, .int .i64 q], .string part] w fun e w' => e = .returned (.string (frB k all n (p, q) part)) ∧ Ext w w' := by
  obtain ⟨g0, g1, _, _⟩ := addr_box (w := w) (.int .i64 p) (.int .i64 q) (Ext.refl _)
  have hx1 := (Ext.refl w).alloc (.cells #[.int .i64 p, .int .i64 q] 38)
  have hs1 : (w.alloc (.cells #[.int .i64 p, .int .i64 q] 38)).heap.size = w.heap.size + 1 := by simp
  have hfr : frH k all n (p, q) = headL 67 k n (p, q) := if_neg (by omega)
  have HE := Lib.hid (show frB k all n (p, q) part = ⟨(headL 67 k n (p, q) ++ part.data.toList).toArray⟩ from by unfold frB; rw [hfr])
  unfold headL at HE
  have e1 := by8_wrap (k / 16777216)
  have e2 := by8_wrap (k / 65536)
  have e3 := by8_wrap (k / 256)
  have e4 := by8_wrap k
  have e5 := by8_wrap (n / 256)
  have e6 := by8_wrap n
  have e7 := by8_wrap (p / 256)
  have e8 := by8_wrap p
  have e9 := by8_wrap q
  dsimp only at HE
  generalize by8 (k / 16777216) = x1 at *
  generalize by8 (k / 65536) = x2 at *
  generalize by8 (k / 256) = x3 at *
  generalize by8 k = x4 at *
  generalize by8 (n / 256) = x5 at *
  generalize by8 n = x6 at *
  generalize by8 (p / 256) = x7 at *
  generalize by8 p = x8 at *
  generalize by8 q = x9 at *
  clear hfr
  obtain ⟨W1, hW1⟩ : ∃ W1, w.alloc (.cells #[.int .i64 p, .int .i64 q] 38) = W1 := ⟨_, rfl⟩
  rw [hW1] at g0 g1 hx1 hs1
  have HO := Lib.hid (bytes_own (w := W1) (base := W1.heap.size) [67, x1, x2, x3, x4, x5, x6, x7, x8, x9] #[.int .u8 67, .int .u8 x1.toNat, .int .u8 x2.toNat, .int .u8 x3.toNat, .int .u8 x4.toNat, .int .u8 x5.toNat, .int .u8 x6.toNat, .int .u8 x7.toNat, .int .u8 x8.toNat, .int .u8 x9.toNat] rfl (by simp) hs1 rfl (Nat.le_refl _))
  obtain ⟨FF, hFF⟩ : ∃ FF, ([67, x1, x2, x3, x4, x5, x6, x7, x8, x9] ++ part.data.toList : List UInt8) = FF := ⟨_, rfl⟩
  have HFL := Lib.hid (show FF.length = 10 + part.size from by rw [← hFF]; simp; omega)
  rw [hFF] at HE
  have HFF := Lib.hid hFF
  clear hFF
  go_enter Try.func13, Try.ntmps13
  go_wp2_with (first
    | (at_builtin; refine wpList_app_text rfl _ _ rfl rfl HO.out rfl ?d3 ?d4 ?_))
  case d3 => first | (simp; done) | (simp; omega)
  case d4 => simp
  intro v6 w6 ho6 hb6
  replace ho6 : OwnB w6 (w.heap.size + 1) v6 FF := by
    rw [← HFF.out]
    exact ho6
  have hx6 := below_ext (hx1.alloc _) hb6 (by omega)
  have HL6 := Lib.hid ho6
  obtain ⟨gf, cf, rfl, _, _, _, _⟩ := ho6.tight (by have := HFL.out; omega)
  have hcv := own_text HL6.out rfl (by have := HFL.out; omega)
  go_wp2
  go_ret
  exact ⟨by rw [HE.out]; rfl, hx6⟩
end
section
open Go.RowKit
set_option linter.unusedVariables false
set_option maxRecDepth 20000
section
variable {P : Program} {md : Region.Mode} {ops : Array Oper} {Q : Exit → Act → World → Prop} {C : World → Prop} {m : Nat}

/-- As the kit's word, but C is asked only while operation m has not come up. -/
def wpAnyF (P : Program) (md : Region.Mode) (ops : Array Oper) (Q : Exit → Act → World → Prop) (C : World → Prop) (m : Nat) : Nat → Array Bool → Act → World → Prop
  | 0, listed, a, w => Region.ready md ops listed = [] ∧ Q .normal a w
  | fuel + 1, listed, a, w =>
    (Region.ready md ops listed = [] → Q .normal a w) ∧
    ∀ i ∈ Region.ready md ops listed, wpOp P ops Q i (fun a' w' => ((listed.setIfInBounds i true).getD m true = false → C w') ∧ wpAnyF P md ops Q C m fuel (listed.setIfInBounds i true) a' w') a w
theorem wpAny_of_F : ∀ (fuel : Nat) (listed : Array Bool) (a : Act) (w : World), wpAnyF P md ops Q C m fuel listed a w → wpAny P md ops Q fuel listed a w
  | 0, _, _, _, h => h
  | fuel + 1, _, _, _, h => ⟨h.1, fun i hi => wpOp_mono (fun a' w' h' => wpAny_of_F fuel _ a' w' h'.2) (h.2 i hi)⟩
theorem wpAnyF_first {i : Nat} {oi om : Oper} {v : Value} (hi : ops[i]? = some oi) (hm : ops[m]? = some om) (hmi : ∃ e ∈ om.after, Region.binds md e = true ∧ e.on = i) (hne : m ≠ i)
    (hsel : ∀ (j : Nat) (o : Oper) cs b, ops[j]? = some o → o.op ≠ .select cs b) (hQ : ∀ c a w, Q (.panic c) (a.put oi.dst v) w → Q (.panic c) a w) :
    ∀ (fuel : Nat) (listed : Array Bool) (a : Act) (w : World),
      (∀ j oj, ops[j]? = some oj → j ≠ i → listed.getD j true = false → (∀ e ∈ oj.after, Region.binds md e = true → e.on ≠ i) → oi.apart ops oj = true) →
      i ∈ Region.ready md ops listed → YieldsIf P ops C oi v a → C w → listed.getD m true = false →
      wpAnyF P md ops Q C m fuel (listed.setIfInBounds i true) (a.put oi.dst v) w → wpAnyF P md ops Q C m (fuel + 1) listed a w := by
  intro fuel
  induction fuel with
  | zero =>
    intro listed a w _ hr hy hC hl H
    refine ⟨fun h => (by rw [h] at hr; cases hr), fun j hj => ?_⟩
    by_cases hji : j = i
    · subst hji; exact hy.wpOp hi hC ⟨fun _ => hC, H⟩
    · have := ready_mono hj hji
      rw [H.1] at this
      cases this
  | succ fuel ih =>
    intro listed a w hfree hr hy hC hl H
    refine ⟨fun h => (by rw [h] at hr; cases hr), fun j hj => ?_⟩
    by_cases hji : j = i
    · subst hji; exact hy.wpOp hi hC ⟨fun _ => hC, H⟩
    · have h1 := H.2 j (ready_mono hj hji)
      obtain ⟨hjun, oj, hoj, hall⟩ := mem_ready.1 hj
      have hnot : ∀ e ∈ oj.after, Region.binds md e = true → e.on ≠ i := fun e he hb heq => by
        have h1 := hall e he hb
        have h0 := (mem_ready.1 hr).1
        rw [heq] at h1
        rcases Nat.lt_or_ge i listed.size with h' | h'
        · simp [h'] at h0 h1; rw [h0] at h1; cases h1
        · simp [Array.getElem?_eq_none h'] at h1
      have hjm : j ≠ m := fun e => by
        subst e
        rw [hoj] at hm
        injection hm with hm
        subst hm
        obtain ⟨x, hx, hb, he⟩ := hmi
        exact hnot x hx hb he
      have hlm : ((listed.setIfInBounds i true).setIfInBounds j true).getD m true = false := by
        rw [getD_set_ne true hjm, getD_set_ne true (Ne.symm hne)]; exact hl
      have h2 := wpOp_putIf hoj (hfree j oj hoj hji hjun hnot) (fun cs b => hsel i oi cs b hi) (fun cs b => hsel j oj cs b hoj) hQ hy h1
      have hfree' : ∀ k ok, ops[k]? = some ok → k ≠ i → (listed.setIfInBounds j true).getD k true = false →
          (∀ e ∈ ok.after, Region.binds md e = true → e.on ≠ i) → oi.apart ops ok = true := fun k ok hk hki hun hno => by
        refine hfree k ok hk hki ?_ hno
        by_cases hjk : j = k
        · subst hjk; exact hjun
        · rw [getD_set_ne true hjk] at hun; exact hun
      refine wpOp_mono (fun a' w' h3 => ⟨fun _ => h3.2.1 hlm, ih (listed.setIfInBounds j true) a' w' hfree' (ready_mono hr (Ne.symm hji)) h3.1 (h3.2.1 hlm) (by rw [getD_set_ne true hjm]; exact hl) ?_⟩) h2
      rw [Array.setIfInBounds_comm _ _ hji]
      exact h3.2.2
theorem wpAnyF_take {i : Nat} {oi : Oper} {v : Value} {fuel : Nat} {listed : Array Bool} {a : Act} {w : World} (hi : ops[i]? = some oi)
    (hb : (match ops[m]? with | some om => om.after.any fun e => Region.binds md e && (e.on == i) | none => false) = true) (hne : (m == i) = false)
    (hs : Region.noSelect ops = true) (hf : Region.free md ops listed i = true) (hr : (Region.ready md ops listed).contains i = true) (hl : listed.getD m true = false)
    (hQ : ∀ c a w, Q (.panic c) (a.put oi.dst v) w → Q (.panic c) a w) (hy : YieldsIf P ops C oi v a) (hC : C w)
    (h : wpAnyF P md ops Q C m fuel (listed.setIfInBounds i true) (a.put oi.dst v) w) : wpAnyF P md ops Q C m (fuel + 1) listed a w := by
  cases hm : ops[m]? with
  | none => rw [hm] at hb; cases hb
  | some om =>
    rw [hm] at hb
    have hb' : ∃ e ∈ om.after, Region.binds md e = true ∧ e.on = i := by
      simp only [Array.any_eq_true, Bool.and_eq_true, beq_iff_eq] at hb
      obtain ⟨k, hk, h1, h2⟩ := hb
      exact ⟨_, Array.getElem_mem hk, h1, h2⟩
    exact wpAnyF_first hi hm hb' (by simpa using hne) (Region.noSelect_spec hs) hQ fuel listed a w (Region.free_spec hi hf) (by simpa using hr) hy hC hl h
theorem wpAnyF_one {i : Nat} {o : Oper} {fuel : Nat} {listed : Array Bool} {a : Act} {w : World} (ho : ops[i]? = some o) (hr : Region.ready md ops listed = [i]) (hw : Region.wanted o (yielded ops a.tmps) = true)
    (h : ∀ K' : Act → World → Prop, (∀ a' w', ((listed.setIfInBounds i true).getD m true = false → C w') → wpAnyF P md ops Q C m fuel (listed.setIfInBounds i true) a' w' → K' a' w') → o.wp P a w K' Q) : wpAnyF P md ops Q C m (fuel + 1) listed a w := by
  refine ⟨fun h0 => (by rw [hr] at h0; cases h0), fun j hj => ?_⟩
  rw [hr] at hj
  obtain rfl : j = i := by simpa using hj
  exact wpOp_here ho hw fun K' hK => h K' fun a' w' h1 h2 => hK a' w' ⟨h1, h2⟩
theorem wpAnyF_two {i j : Nat} {o o' : Oper} {fuel : Nat} {listed : Array Bool} {a : Act} {w : World} (ho : ops[i]? = some o) (ho' : ops[j]? = some o') (hr : Region.ready md ops listed = [i, j])
    (hw : Region.wanted o (yielded ops a.tmps) = true) (hw' : Region.wanted o' (yielded ops a.tmps) = true)
    (h : ∀ K' : Act → World → Prop, (∀ a' w', ((listed.setIfInBounds i true).getD m true = false → C w') → wpAnyF P md ops Q C m fuel (listed.setIfInBounds i true) a' w' → K' a' w') → o.wp P a w K' Q)
    (h' : ∀ K' : Act → World → Prop, (∀ a' w', ((listed.setIfInBounds j true).getD m true = false → C w') → wpAnyF P md ops Q C m fuel (listed.setIfInBounds j true) a' w' → K' a' w') → o'.wp P a w K' Q) : wpAnyF P md ops Q C m (fuel + 1) listed a w := by
  refine ⟨fun h0 => (by rw [hr] at h0; cases h0), fun k hk => ?_⟩
  rw [hr] at hk
  have hk' : k = i ∨ k = j := by simpa using hk
  rcases hk' with rfl | rfl
  · exact wpOp_here ho hw fun K' hK => h K' fun a' w' h1 h2 => hK a' w' ⟨h1, h2⟩
  · exact wpOp_here ho' hw' fun K' hK => h' K' fun a' w' h1 h2 => hK a' w' ⟨h1, h2⟩
theorem wpAnyF_done {listed : Array Bool} {a : Act} {w : World} (hr : Region.ready md ops listed = []) (h : Q .normal a w) : ∀ fuel, wpAnyF P md ops Q C m fuel listed a w
  | 0 => ⟨hr, h⟩
  | _ + 1 => ⟨fun _ => h, by rw [hr]; simp⟩
/-- the beginning -/
theorem wp_region_F {id : Nat} {a : Act} {w : World} (C : World → Prop) (m : Nat) (hm : P.follows .mixedOrders = true)
    (h : wpAnyF P .any ops Q C m ops.size (Array.replicate ops.size false) a { w with drawn := w.drawn + 1 }) : (Code.region id ops true).wp P Q a w :=
  wp_region_any hm (wpAny_of_F _ _ _ _ h)
end
end
section
open Go.RowKit Go.Maps
set_option linter.unusedVariables false
set_option linter.unusedSimpArgs false
set_option linter.unusedSectionVars false
set_option maxRecDepth 20000

theorem keyedI : Keyed Try.prog 3 := int_keyed Try.underlying3
/-- an address: a page and a line -/
abbrev Adr := Int × Int
def adV (x : Adr) : Value := .agg #[.int .i64 x.1, .int .i64 x.2]
def adD (x : Adr) : DataW Unit := .agg [.lit (.int .i64 x.1), .lit (.int .i64 x.2)]
/-- how an address reads -/
def adElem (v : Value) : Option (DataW Unit × List MemPlace) :=
  match v with
  | .agg a => match a.toList with
    | [.int .i64 x, .int .i64 y] => some (.agg [.lit (.int .i64 x), .lit (.int .i64 y)], [])
    | _ => none
  | _ => none
theorem adElem_mk (x : Adr) : adElem (adV x) = some (adD x, []) := rfl
theorem adElem_inv {v : Value} {d : DataW Unit} {p : List MemPlace} (h : adElem v = some (d, p)) : ∃ x : Adr, v = adV x ∧ d = adD x := by
  unfold adElem at h
  split at h
  · rename_i a
    split at h
    · rename_i x y hl
      simp at h
      refine ⟨(x, y), ?_, h.1.symm⟩
      show Value.agg a = .agg #[.int .i64 x, .int .i64 y]
      rw [← Array.toArray_toList (xs := a), hl]
    · cases h
  · cases h
theorem adD_inj {x y : Adr} (h : adD x = adD y) : x = y := by
  obtain ⟨a, b⟩ := x
  obtain ⟨c, d⟩ := y
  simpa [adD] using h
theorem adElem_is {v : Value} {x : Adr} {p : List MemPlace} (h : adElem v = some (adD x, p)) : v = adV x := by
  obtain ⟨y, rfl, e⟩ := adElem_inv h
  rw [adD_inj e]
/-- a number that the program reads as a key -/
def OkI (x : Int) : Prop := -9223372036854775808 ≤ x ∧ x ≤ 9223372036854775807
def mkI (x : Int) : Lit := .int .i64 x
theorem mkI_key {x : Int} (h : OkI x) : keyOf Try.prog 3 (.int .i64 x) = some (mkI x) := by
  have w0 : (Lit.int .i64 x).wf = true := by
    obtain ⟨h1, h2⟩ := h
    simp [Lit.wf, IntKind.min, IntKind.max, IntKind.signed, IntKind.bits]
    omega
  simp [keyOf, Try.underlying3, mapKey, w0, mkI]
theorem mkI_inj {x y : Int} (hx : OkI x) (hy : OkI y) (e : mkI x = mkI y) : x = y := by simpa [mkI] using e
theorem mkI_lit {x : Int} (h : OkI x) : WideAt.IsKeyLit (mkI x) := trivial

/-- a pair laid under its key -/
def putI {β : Type} (l : List (Int × β)) (k : Int) (v : β) : List (Int × β) := if (l.any fun e => decide (e.1 = k)) = true then l.map fun e => if e.1 = k then (k, v) else e else l ++ [(k, v)]
def delI {β : Type} (l : List (Int × β)) (k : Int) : List (Int × β) := l.filter fun e => !decide (e.1 = k)
def getI {β : Type} (l : List (Int × β)) (k : Int) : Option β := (l.find? fun e => decide (e.1 = k)).map (·.2)
theorem putI_keys {β : Type} {l : List (Int × β)} {k : Int} {v : β} : (putI l k v).map (·.1) = if (l.any fun e => decide (e.1 = k)) = true then l.map (·.1) else l.map (·.1) ++ [k] := by
  unfold putI
  split
  · rw [List.map_map]
    apply List.map_congr_left
    intro e he
    show (if e.1 = k then (k, v) else e).1 = e.1
    split
    · next h => exact h.symm
    · rfl
  · simp
theorem mem_putI {β : Type} {l : List (Int × β)} {k : Int} {v : β} {x : Int × β} : x ∈ putI l k v ↔ x = (k, v) ∨ (x ∈ l ∧ x.1 ≠ k) := by
  unfold putI
  split
  · next h =>
    rw [List.mem_map]
    constructor
    · rintro ⟨e, he, rfl⟩
      by_cases hk : e.1 = k
      · rw [if_pos hk]; exact .inl rfl
      · rw [if_neg hk]; exact .inr ⟨he, hk⟩
    · rintro (rfl | ⟨h1, h2⟩)
      · rw [List.any_eq_true] at h
        obtain ⟨e, he, hk⟩ := h
        exact ⟨e, he, by rw [if_pos (by simpa using hk)]⟩
      · exact ⟨x, h1, by rw [if_neg h2]⟩
  · next h =>
    rw [List.mem_append, List.mem_singleton]
    constructor
    · rintro (h1 | h1)
      · exact .inr ⟨h1, fun e => h (List.any_eq_true.2 ⟨x, h1, by simpa using e⟩)⟩
      · exact .inl h1
    · rintro (h1 | ⟨h1, _⟩)
      · exact .inr h1
      · exact .inl h1
theorem mem_delI {β : Type} {l : List (Int × β)} {k : Int} {x : Int × β} : x ∈ delI l k ↔ x ∈ l ∧ x.1 ≠ k := by
  unfold delI
  rw [List.mem_filter]
  simp
theorem any_key {β : Type} {l : List (Int × β)} {k : Int} : (l.any fun e => decide (e.1 = k)) = true ↔ k ∈ l.map (·.1) := by
  rw [List.any_eq_true, List.mem_map]
  constructor
  · rintro ⟨e, he, h⟩; exact ⟨e, he, by simpa using h⟩
  · rintro ⟨e, he, h⟩; exact ⟨e, he, by simpa using h⟩
theorem putI_nodup {β : Type} {l : List (Int × β)} {k : Int} {v : β} (h : (l.map (·.1)).Nodup) : ((putI l k v).map (·.1)).Nodup := by
  rw [putI_keys]
  split
  · exact h
  · next hn =>
    rw [any_key] at hn
    exact List.nodup_append.2 ⟨h, by simp, fun a ha b hb e => by
      rw [List.mem_singleton] at hb
      subst hb e
      exact hn ha⟩
theorem getI_some {β : Type} {l : List (Int × β)} (h : (l.map (·.1)).Nodup) {k : Int} {v : β} : getI l k = some v ↔ (k, v) ∈ l := by
  unfold getI
  induction l with
  | nil => simp
  | cons e r ih =>
    rw [List.map_cons, List.nodup_cons] at h
    rw [List.find?_cons]
    by_cases hk : e.1 = k
    · rw [decide_eq_true hk]
      simp only [Option.map_some, Option.some.injEq, List.mem_cons]
      constructor
      · rintro rfl; left; rw [← hk]
      · rintro (h1 | h1)
        · rw [← h1]
        · exact absurd (List.mem_map.2 ⟨_, h1, hk.symm⟩) h.1
    · rw [decide_eq_false hk]
      simp only
      rw [ih h.2, List.mem_cons]
      constructor
      · exact .inr
      · rintro (h1 | h1)
        · exact absurd (by rw [← h1]) hk
        · exact h1
theorem getI_none {β : Type} {l : List (Int × β)} {k : Int} : getI l k = none ↔ k ∉ l.map (·.1) := by
  unfold getI
  rw [Option.map_eq_none_iff, List.find?_eq_none, List.mem_map]
  constructor
  · rintro h ⟨e, he, hk⟩; exact h e he (by simpa using hk)
  · intro h e he hk; exact h ⟨e, he, by simpa using hk⟩

/-- block b is a map in which the numbers of l lie with the addresses that l gives them -/
def MapI (w : World) (b : Nat) (l : List (Int × Adr)) : Prop :=
  ∃ (D : DataW Unit), w.ownsMap Try.prog 3 adElem b l.length D ∧ (l.map (·.1)).Nodup ∧ (∀ x ∈ l, OkI x.1) ∧ (∀ kl, has D kl = true ↔ ∃ x ∈ l, mkI x.1 = kl) ∧ (∀ x ∈ l, ∀ z, D.atKey (mkI x.1) z = adD x.2) ∧ size D = l.length
section
variable {e : TypeId} {w : World} {b : Nat} {l : List (Int × Adr)}
theorem MapI.lt (h : MapI w b l) : b < w.heap.size := by obtain ⟨D, h, _⟩ := h; exact h.lt
theorem MapI.same {w' : World} (h : MapI w b l) (he : w'.heap[b]? = w.heap[b]?) : MapI w' b l := by
  obtain ⟨D, ⟨es, clock, hb, r'⟩, r⟩ := h
  exact ⟨D, ⟨es, clock, he.trans hb, r'⟩, r⟩
theorem MapI.ext {w' : World} (h : MapI w b l) (he : Ext w w') : MapI w' b l := h.same (he.block h.lt)
theorem MapI.upd {w' : World} {g : Nat} (h : MapI w b l) (hu : Upd w g w') (hne : b ≠ g) : MapI w' b l := by
  have hb := h.lt
  obtain ⟨D, ⟨es, clock, hb, r'⟩, r⟩ := h
  exact ⟨D, ⟨es, clock, hu.heap hb hne, r'⟩, r⟩
theorem MapI.made (w : World) : MapI (w.alloc (.map #[] 0)) w.heap.size [] :=
  ⟨.map [], World.ownsMap_made _ _ _ _, by simp, by simp, fun kl => by simp [has], by simp, rfl⟩
theorem MapI.perm {l' : List (Int × Adr)} (h : MapI w b l) (hp : l.Perm l') : MapI w b l' := by
  obtain ⟨D, h1, h2, h3, h4, h5, h6⟩ := h
  refine ⟨D, by rw [← hp.length_eq]; exact h1, (hp.map _).nodup_iff.1 h2, fun x hx => h3 x (hp.mem_iff.2 hx), fun kl => ?_, fun x hx => h5 x (hp.mem_iff.2 hx), by rw [← hp.length_eq]; exact h6⟩
  rw [h4]
  constructor
  · rintro ⟨x, hx, e⟩; exact ⟨x, hp.mem_iff.1 hx, e⟩
  · rintro ⟨x, hx, e⟩; exact ⟨x, hp.mem_iff.2 hx, e⟩
theorem MapI.has_iff {D : DataW Unit} (h3 : ∀ x ∈ l, OkI x.1) (h4 : ∀ kl, has D kl = true ↔ ∃ x ∈ l, mkI x.1 = kl) {k : Int} (hk : OkI k) : has D (mkI k) = true ↔ k ∈ l.map (·.1) := by
  rw [h4, List.mem_map]
  constructor
  · rintro ⟨x, hx, e⟩; exact ⟨x, hx, mkI_inj (h3 x hx) hk e⟩
  · rintro ⟨x, hx, e⟩; exact ⟨x, hx, by rw [e]⟩
theorem MapI.len {t : TypeId} (h : MapI w b l) (ht : Try.prog.underlying t = some (.map 3 e)) (ty : TypeId) : (Builtin.len_ #[t] ty #[.map (some b)]).run Try.prog w = .ok (.int .i64 l.length) w := by
  obtain ⟨D, hown, _, _, _, _, hs⟩ := h
  rw [hown.len ht ty, hs]
theorem owns_tight {R : Value → Option (DataW Unit × List MemPlace)} {k : TypeId} {n : Nat} {D : DataW Unit} (h : w.ownsMap Try.prog k R b n D) : w.ownsMap Try.prog k R b (size D) D := by
  obtain ⟨es, clock, hb, F, hs, rfl⟩ := h
  exact ⟨es, clock, hb, F, by simp [size, length_sorted], rfl⟩
theorem MapI.store {t : TypeId} (h : MapI w b l) (ht : Try.prog.underlying t = some (.map 3 e)) (hn : l.length < 1000000) {k : Int} (hk : OkI k) {v : Adr} :
    ∃ w', (Instr.mapUpdate t (.map (some b)) (.int .i64 k) (adV v)).run Try.prog w = .ok () w' ∧ MapI w' b (putI l k v) ∧ Upd w b w' := by
  obtain ⟨D, hown, hd, h3, h4, h5, h6⟩ := h
  have hT := hown.tidy keyedI
  have hkey := mkI_key hk
  have hlit := mkI_lit hk
  have hhas := MapI.has_iff h3 h4 hk
  obtain ⟨w', hrun, hown', hg⟩ := hown.update keyedI ht (by unfold maxLen; omega) hkey (adElem_mk v)
  have hsz : size (D.put (mkI k) (adD v)) = (putI l k v).length := by
    rw [size_put hT, h6]
    unfold putI
    by_cases hm : k ∈ l.map (·.1)
    · rw [if_pos (hhas.2 hm), if_pos (any_key.2 hm), List.length_map]
    · rw [if_neg (fun h => hm (hhas.1 h)), if_neg (fun h => hm (any_key.1 h))]
      simp
  have ht' := owns_tight hown'
  rw [hsz] at ht'
  refine ⟨w', hrun, ⟨_, ht', putI_nodup hd, fun x hx => ?_, fun kl => ?_, fun x hx z => ?_, hsz⟩, hg⟩
  · rcases mem_putI.1 hx with rfl | ⟨h1, _⟩
    · exact hk
    · exact h3 x h1
  · by_cases hkl : kl = mkI k
    · subst hkl
      rw [has_put_same hT.isMap hlit]
      exact ⟨fun _ => ⟨(k, v), mem_putI.2 (.inl rfl), rfl⟩, fun _ => rfl⟩
    · rw [has_put_other hkl, h4]
      constructor
      · rintro ⟨x, hx, e⟩
        exact ⟨x, mem_putI.2 (.inr ⟨hx, fun e' => hkl (by rw [← e, e'])⟩), e⟩
      · rintro ⟨x, hx, e⟩
        rcases mem_putI.1 hx with rfl | ⟨h1, _⟩
        · exact absurd e.symm hkl
        · exact ⟨x, h1, e⟩
  · rcases mem_putI.1 hx with rfl | ⟨h1, h2⟩
    · exact atKey_put_same hT.isMap hlit _ _
    · rw [atKey_put_other (fun e => h2 (mkI_inj (h3 x h1) hk e))]
      exact h5 x h1 z
theorem delI_len {k : Int} (hd : (l.map (·.1)).Nodup) : (delI l k).length + (if (l.any fun e => decide (e.1 = k)) = true then 1 else 0) = l.length := by
  induction l with
  | nil => simp [delI]
  | cons x r ih =>
    rw [List.map_cons, List.nodup_cons] at hd
    have ih := ih hd.2
    unfold delI at ih ⊢
    rw [List.filter_cons]
    by_cases hx : x.1 = k
    · have hn : k ∉ r.map (·.1) := by rw [← hx]; exact hd.1
      rw [if_neg (fun h => hn (any_key.1 h))] at ih
      rw [if_neg (by simp [hx]), if_pos (by simp [hx])]
      simp only [List.length_cons]
      omega
    · rw [if_pos (by simp [hx])]
      rw [List.any_cons, decide_eq_false hx, Bool.false_or]
      simp only [List.length_cons]
      omega
theorem MapI.drop {t : TypeId} (h : MapI w b l) (ht : Try.prog.underlying t = some (.map 3 e)) {k : Int} (hk : OkI k) (ty : TypeId) :
    ∃ w', (Builtin.delete_ #[t, 3] ty #[.map (some b), (.int .i64 k)]).run Try.prog w = .ok (.tuple #[]) w' ∧ MapI w' b (delI l k) ∧ Upd w b w' := by
  obtain ⟨D, hown, hd, h3, h4, h5, h6⟩ := h
  have hT := hown.tidy keyedI
  have hhas := MapI.has_iff h3 h4 hk
  obtain ⟨w', hrun, hown', hg⟩ := hown.drop keyedI ht (mkI_key hk) ty
  have hsz : size (D.del (mkI k)) = (delI l k).length := by
    have h7 := size_del (k := mkI k) hT
    have h8 := delI_len (k := k) hd
    rw [h6] at h7
    by_cases hm : k ∈ l.map (·.1)
    · rw [if_pos (any_key.2 hm)] at h8
      rw [if_pos (hhas.2 hm)] at h7
      omega
    · rw [if_neg (fun h => hm (any_key.1 h))] at h8
      rw [if_neg (fun h => hm (hhas.1 h))] at h7
      omega
  have ht' := owns_tight hown'
  rw [hsz] at ht'
  refine ⟨w', hrun, ⟨_, ht', List.Nodup.sublist (List.Sublist.map _ List.filter_sublist) hd, fun x hx => h3 x (mem_delI.1 hx).1, fun kl => ?_, fun x hx z => ?_, hsz⟩, hg.grown⟩
  · by_cases hkl : kl = mkI k
    · subst hkl
      rw [has_del_same]
      constructor
      · intro h; cases h
      · rintro ⟨x, hx, e⟩
        exact absurd (mkI_inj (h3 x (mem_delI.1 hx).1) hk e) (mem_delI.1 hx).2
    · rw [has_del_other hkl, h4]
      constructor
      · rintro ⟨x, hx, e⟩
        exact ⟨x, mem_delI.2 ⟨hx, fun e' => hkl (by rw [← e, e'])⟩, e⟩
      · rintro ⟨x, hx, e⟩
        exact ⟨x, (mem_delI.1 hx).1, e⟩
  · obtain ⟨h1, h2⟩ := mem_delI.1 hx
    rw [atKey_del_other (fun e => h2 (mkI_inj (h3 x h1) hk e))]
    exact h5 x h1 z
end

/-- what lies under a key, and the look-ups -/
def atI (l : List (Int × Adr)) (k : Int) : Adr := (getI l k).getD (0, 0)
def hasI (l : List (Int × Adr)) (k : Int) : Bool := (getI l k).isSome
section
variable {w : World} {b : Nat} {l : List (Int × Adr)}
theorem MapI.key_ok (h : MapI w b l) {k : Int} (hk : k ∈ l.map (·.1)) : OkI k := by
  obtain ⟨D, _, _, h3, _⟩ := h
  obtain ⟨e, he, rfl⟩ := List.mem_map.1 hk
  exact h3 e he
theorem MapI.nodup (h : MapI w b l) : (l.map (·.1)).Nodup := by obtain ⟨D, _, h2, _⟩ := h; exact h2
theorem MapI.reads {D : DataW Unit} (h2 : (l.map (·.1)).Nodup) (h3 : ∀ x ∈ l, OkI x.1) (h4 : ∀ kl, has D kl = true ↔ ∃ x ∈ l, mkI x.1 = kl) (h5 : ∀ x ∈ l, ∀ z, D.atKey (mkI x.1) z = adD x.2) {k : Int} (hk : OkI k) : has D (mkI k) = hasI l k ∧ D.atKey (mkI k) (adD (0, 0)) = adD (atI l k) := by
  have hh := MapI.has_iff h3 h4 hk
  unfold hasI atI
  cases hg : getI l k with
  | none =>
    rw [getI_none] at hg
    have hn : has D (mkI k) = false := by
      cases hb : has D (mkI k) with
      | false => rfl
      | true => exact absurd (hh.1 hb) hg
    exact ⟨hn, atKey_of_not_has hn _⟩
  | some a =>
    rw [getI_some h2] at hg
    exact ⟨hh.2 (List.mem_map.2 ⟨_, hg, rfl⟩), h5 _ hg _⟩
theorem MapI.look {t : TypeId} (h : MapI w b l) (ht : Try.prog.underlying t = some (.map 3 38)) {k : Int} (hk : OkI k) :
    (Instr.lookup t (.map (some b)) (.int .i64 k) false).run Try.prog w = .ok (adV (atI l k)) w := by
  obtain ⟨D, hown, h2, h3, h4, h5, h6⟩ := h
  obtain ⟨v, ps, hrun, hv⟩ := hown.lookup keyedI ht (z := adV (0, 0)) (by rfl) (adElem_mk (0, 0)) (mkI_key hk)
  rw [(MapI.reads h2 h3 h4 h5 hk).2] at hv
  rw [hrun, adElem_is hv]
theorem MapI.look_ok {t : TypeId} (h : MapI w b l) (ht : Try.prog.underlying t = some (.map 3 38)) {k : Int} (hk : OkI k) :
    (Instr.lookup t (.map (some b)) (.int .i64 k) true).run Try.prog w = .ok (.tuple #[adV (atI l k), .bool (hasI l k)]) w := by
  obtain ⟨D, hown, h2, h3, h4, h5, h6⟩ := h
  obtain ⟨v, ps, hrun, hv⟩ := hown.look_ok keyedI ht (z := adV (0, 0)) (by rfl) (adElem_mk (0, 0)) (mkI_key hk)
  obtain ⟨r1, r2⟩ := MapI.reads h2 h3 h4 h5 hk
  rw [r2] at hv
  rw [hrun, adElem_is hv, r1]
end
end
section
open Go.RowKit Go.Maps
set_option linter.unusedVariables false
set_option linter.unusedSimpArgs false
set_option linter.unusedSectionVars false
set_option maxRecDepth 20000

/-- block B holds the values C, all of them free to be written -/
def BoxN (W : World) (B : Nat) (t : TypeId) (C : Array Value) : Prop := W.heap[B]? = some (.cells C t (0, 0))
theorem BoxN.lt {W : World} {B : Nat} {t : TypeId} {C : Array Value} (h : BoxN W B t C) : B < W.heap.size := (Array.getElem?_eq_some_iff.1 h).1
theorem BoxN.cell {W : World} {B : Nat} {t : TypeId} {C : Array Value} (h : BoxN W B t C) {i : Nat} {v : Value} (hv : C[i]? = some v) : W.cell? ⟨B, i, none⟩ = some v := by
  unfold World.cell?
  simp only [show W.heap[B]? = _ from h]
  exact hv
theorem BoxN.frozen {W : World} {B : Nat} {t : TypeId} {C : Array Value} (h : BoxN W B t C) (i : Nat) : W.frozen? ⟨B, i, none⟩ = false := by
  unfold World.frozen?
  simp only [show W.heap[B]? = _ from h]
  simp
theorem BoxN.new (W : World) (t : TypeId) (C : Array Value) : BoxN (W.alloc (.cells C t)) W.heap.size t C := World.alloc_heap_new W _
theorem BoxN.ext {W W' : World} {B : Nat} {t : TypeId} {C : Array Value} (h : BoxN W B t C) (hx : Ext W W') : BoxN W' B t C := hx.heap h
theorem BoxN.set {W : World} {B : Nat} {t : TypeId} {C : Array Value} (h : BoxN W B t C) (i : Nat) (v : Value) : BoxN (W.setCell ⟨B, i, none⟩ v) B t (C.setIfInBounds i v) := by
  obtain ⟨hlt, hk⟩ := Array.getElem?_eq_some_iff.1 h
  show (W.heap.modify B _)[B]? = _
  rw [Array.getElem?_eq_getElem (by rw [Array.size_modify]; exact hlt), Array.getElem_modify_self, hk]
  rfl
/-- only blocks of F have changed (and new blocks may be there) -/
structure UpdF (F : Nat → Prop) (w w' : World) : Prop where
  os : w'.os = w.os
  tape : w'.tape = w.tape
  output : w'.output = w.output
  size : w.heap.size ≤ w'.heap.size
  block : ∀ k, k < w.heap.size → ¬ F k → w'.heap[k]? = w.heap[k]?
theorem UpdF.refl (F : Nat → Prop) (w : World) : UpdF F w w := ⟨rfl, rfl, rfl, Nat.le_refl _, fun _ _ _ => rfl⟩
theorem UpdF.trans {F : Nat → Prop} {a b c : World} (h : UpdF F a b) (k : UpdF F b c) : UpdF F a c :=
  ⟨k.os.trans h.os, k.tape.trans h.tape, k.output.trans h.output, Nat.le_trans h.size k.size, fun i hi hf => (k.block i (Nat.lt_of_lt_of_le hi h.size) hf).trans (h.block i hi hf)⟩
/-- what changed behind may be new -/
theorem UpdF.trans_new {F G : Nat → Prop} {a b c : World} (h : UpdF F a b) (k : UpdF G b c) (hg : ∀ i, G i → F i ∨ a.heap.size ≤ i) : UpdF F a c :=
  ⟨k.os.trans h.os, k.tape.trans h.tape, k.output.trans h.output, Nat.le_trans h.size k.size, fun i hi hf => (k.block i (Nat.lt_of_lt_of_le hi h.size) (fun e => by
    rcases hg i e with h1 | h1
    · exact hf h1
    · omega)).trans (h.block i hi hf)⟩
theorem UpdF.mono {F G : Nat → Prop} {a b : World} (h : UpdF F a b) (hg : ∀ i, F i → G i) : UpdF G a b := ⟨h.os, h.tape, h.output, h.size, fun i hi hf => h.block i hi (fun e => hf (hg i e))⟩
theorem UpdF.of_ext {a b : World} (h : Ext a b) (F : Nat → Prop) : UpdF F a b := ⟨h.os, h.tape, h.output, h.size, fun i hi _ => h.block hi⟩
theorem UpdF.ext {F : Nat → Prop} {a b c : World} (h : Ext a b) (k : UpdF F b c) (hf : ∀ i, F i → a.heap.size ≤ i) : Ext a c := by
  have := UpdF.trans_new (UpdF.of_ext h (fun _ => False)) k (fun i hi => .inr (hf i hi))
  exact ⟨this.os, this.tape, this.output, this.size, fun i hi => this.block i hi (fun e => e)⟩
theorem UpdF.of_grown {a b : World} {row : Option Nat} (h : a.grownBy b row) : UpdF (fun i => row = some i) a b := ⟨h.os, h.tape, h.output, h.size, fun i hi hf => h.block i hi (fun e => hf e.symm)⟩
theorem UpdF.setCell {F : Nat → Prop} {a b : World} (h : UpdF F a b) {p : Addr} (hp : F p.block ∨ a.heap.size ≤ p.block) (v : Value) : UpdF F a (b.setCell p v) :=
  ⟨h.os, h.tape, h.output, by have := h.size; simp [World.setCell]; exact this, fun i hi hf => (Below.heap_setCell b p v i (fun e => by
    subst e
    rcases hp with h1 | h1
    · exact hf h1
    · omega)).trans (h.block i hi hf)⟩
theorem UpdF.alloc {F : Nat → Prop} {a b : World} (h : UpdF F a b) (o : Obj) : UpdF F a (b.alloc o) := h.trans (UpdF.of_ext ((Ext.refl b).alloc o) F)
theorem UpdF.drew {F : Nat → Prop} {a b : World} (h : UpdF F a b) : UpdF F a b.drew := h.trans (UpdF.of_ext (Ext.refl b).drew F)
theorem UpdF.drewN {F : Nat → Prop} {a b : World} (h : UpdF F a b) (n : Nat) : UpdF F a (b.drewN n) := h.trans (UpdF.of_ext ((Ext.refl b).drewN n) F)
theorem UpdF.heap {F : Nat → Prop} {a b : World} (h : UpdF F a b) {k : Nat} {o : Obj} (hk : a.heap[k]? = some o) (hf : ¬ F k) : b.heap[k]? = some o := by
  rw [h.block k (Array.getElem?_eq_some_iff.1 hk).1 hf]; exact hk
theorem UpdF.cell {F : Nat → Prop} {a b : World} (h : UpdF F a b) {p : Addr} {v : Value} (hc : a.cell? p = some v) (hf : ¬ F p.block) : b.cell? p = some v := by
  rw [World.cell?_of_block (h.block p.block (block_lt hc) hf)]; exact hc
theorem BoxN.upd {F : Nat → Prop} {a b : World} {B : Nat} {t : TypeId} {C : Array Value} (h : BoxN a B t C) (k : UpdF F a b) (hf : ¬ F B) : BoxN b B t C := k.heap h hf
theorem OwnG.upd {α : Type} {cs : α → List Value} {e : TypeId} {k : Nat} {F : Nat → Prop} {a b : World} {base : Nat} {v : Value} {l : List α} (h : OwnG cs e k a base v l) (hu : UpdF F a b) (hf : ∀ g, v.ownBlock = some g → ¬ F g) : OwnG cs e k b base v l := by
  refine ⟨h.1, ?_⟩
  rcases h.2 with h0 | ⟨g, cap, cur, hv, hb, hg, rest⟩
  · exact .inl h0
  · exact .inr ⟨g, cap, cur, hv, hb, hu.heap hg (hf g (by rw [hv]; rfl)), rest⟩
theorem UpdF.of_upd {w w' : World} {g : Nat} (h : Upd w g w') : UpdF (fun i => i = g) w w' := (UpdF.of_grown h).mono (fun i hi => by injection hi with hi; exact hi.symm)
theorem Boxed.upd {F : Nat → Prop} {w w' : World} {b : Nat} {T : TypeId} {v : Value} (h : Boxed w b T v) (hu : UpdF F w w') (hf : ¬ F b) : Boxed w' b T v := hu.heap h hf
theorem MapI.updF {w w' : World} {b : Nat} {l : List (Int × Adr)} {F : Nat → Prop} (h : MapI w b l) (hu : UpdF F w w') (hf : ¬ F b) : MapI w' b l := h.same (hu.block b h.lt hf)
theorem BoxN.setRow {W : World} {B : Nat} {t : TypeId} {C : Array Value} (h : BoxN W B t C) (C' : Array Value) : BoxN (W.setRow B C') B t C' := by
  unfold BoxN at *
  rw [setRow_heap W B C C' t _ h]
end
end Go.Proofs.Ytcbainmpikcfjaa
