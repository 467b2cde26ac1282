/- Areas: plain laws for SpaceDamage: areas that tell the same at all places are the same; a changed image. -/
import Derived.Test.YtnileonlabpbpaaGreatQSpAQ
import Derived.Deep.RegionLaw
namespace Go.Proofs.YtnileonlabpbpaaGreat
open Go.RowKit
set_option linter.unusedVariables false
set_option linter.unusedSimpArgs false
set_option linter.unusedSectionVars false
set_option maxRecDepth 20000

/-- ascending cells with the same members are the same -/
theorem asc_eq : ∀ (A B : List Cel), A.Pairwise (fun a b => a.1 < b.1) → B.Pairwise (fun a b => a.1 < b.1) → (∀ x, x ∈ A ↔ x ∈ B) → A = B
  | [], [], _, _, _ => rfl
  | [], b :: B, _, _, h => by have := (h b).2 List.mem_cons_self; cases this
  | a :: A, [], _, _, h => by have := (h a).1 List.mem_cons_self; cases this
  | a :: A, b :: B, hA, hB, h => by
    rw [List.pairwise_cons] at hA hB
    have hab : a = b := by
      have h1 := (h a).1 List.mem_cons_self
      have h2 := (h b).2 List.mem_cons_self
      rcases List.mem_cons.1 h1 with e | h1
      · exact e
      rcases List.mem_cons.1 h2 with e | h2
      · exact e.symm
      have := hB.1 a h1
      have := hA.1 b h2
      omega
    subst hab
    have := asc_eq A B hA.2 hB.2 (fun x => by
      constructor
      · intro hx
        rcases List.mem_cons.1 ((h x).1 (List.mem_cons_of_mem _ hx)) with e | hx'
        · subst e; have := hA.1 x hx; omega
        · exact hx'
      · intro hx
        rcases List.mem_cons.1 ((h x).2 (List.mem_cons_of_mem _ hx)) with e | hx'
        · subst e; have := hB.1 x hx; omega
        · exact hx')
    rw [this]
theorem used_asc {p : ByteArray} (hv : ValidR p) : (usedL p (twoF p 0)).Pairwise (fun a b => a.1 < b.1) := by
  rw [List.pairwise_iff_getElem]
  intro i j hi hj hij
  have := line_lt (cel_good hv) i j hij hj
  unfold cel nthC at this
  rw [List.getD_eq_getElem?_getD, List.getD_eq_getElem?_getD, List.getElem?_eq_getElem hi, List.getElem?_eq_getElem hj] at this
  exact this
theorem cel_mem {p : ByteArray} {i : Nat} (hi : i < cnt p) : cel p i ∈ usedL p (twoF p 0) := nthC_mem _ i hi
theorem mem_cel {p : ByteArray} {x : Cel} (h : x ∈ usedL p (twoF p 0)) : ∃ i, i < cnt p ∧ cel p i = x := by
  obtain ⟨i, hi, rfl⟩ := List.getElem_of_mem h
  exact ⟨i, hi, by unfold cel nthC; rw [List.getD_eq_getElem?_getD, List.getElem?_eq_getElem hi]; rfl⟩
/-- what is told of a used line is its data; and whoever tells it has the cell -/
theorem getR_cel {p : ByteArray} (hv : ValidR p) {i : Nat} (hi : i < cnt p) {r : ByteArray × Int} (h : GetR (cel p) (cnt p) (cel p i).1 r) : r = ((cel p i).2, 0) := by
  rcases h with ⟨k, hk, he, rfl⟩ | ⟨h, _⟩
  · have : k = i := by
      rcases Nat.lt_trichotomy k i with hlt | h | hlt
      · have := line_lt (cel_good hv) k i hlt hi; omega
      · exact h
      · have := line_lt (cel_good hv) i k hlt hk; omega
    rw [this]
  · exact absurd rfl (h i hi)
theorem getR_has {f : Nat → Cel} {n : Nat} {y : Int} {d : ByteArray} (h : GetR f n y (d, 0)) : ∃ k, k < n ∧ f k = (y, d) := by
  rcases h with ⟨k, hk, he, hr⟩ | ⟨_, hr⟩
  · refine ⟨k, hk, ?_⟩
    injection hr with h1 _
    rw [← he, h1]
  · injection hr with _ h2; cases h2
theorem pages_same {p q : ByteArray} (hp : ValidR p) (hq : ValidR q) (hs : p.size = q.size) (h1 : ∀ i, i < cnt p → ∃ r, GetR (cel p) (cnt p) (cel p i).1 r ∧ GetR (cel q) (cnt q) (cel p i).1 r) (h2 : ∀ i, i < cnt q → ∃ r, GetR (cel p) (cnt p) (cel q i).1 r ∧ GetR (cel q) (cnt q) (cel q i).1 r) : p = q := by
  refine page_unique hp hq hs (asc_eq _ _ (used_asc hp) (used_asc hq) fun x => ⟨fun hx => ?_, fun hx => ?_⟩)
  · obtain ⟨i, hi, rfl⟩ := mem_cel hx
    obtain ⟨r, g1, g2⟩ := h1 i hi
    rw [getR_cel hp hi g1] at g2
    obtain ⟨k, hk, e⟩ := getR_has g2
    have := cel_mem hk
    rw [e] at this
    exact this
  · obtain ⟨i, hi, rfl⟩ := mem_cel hx
    obtain ⟨r, g1, g2⟩ := h2 i hi
    rw [getR_cel hq hi g2] at g1
    obtain ⟨k, hk, e⟩ := getR_has g1
    have := cel_mem hk
    rw [e] at this
    exact this
theorem allL_has (l : List ByteArray) (k q i : Nat) (hq : q < k) (hi : i < cnt (nthB l q)) : ((q : Int), (cel (nthB l q) i).1) ∈ allL l k := by
  unfold allL plL
  simp only [List.mem_flatMap, List.mem_range, List.mem_map]
  exact ⟨q, hq, i, hi, rfl⟩
/-- areas that tell the same at all places of both are the same -/
theorem areas_same {size : Nat} {l l' : List ByteArray} (h : GoodL size l) (h' : GoodL size l') (hn : l'.length = l.length)
    (hs : ∀ (q : Nat) (y : Int), ((q : Int), y) ∈ allL l l.length ++ allL l' l'.length → ∃ r, GetR (cel (nthB l q)) (cnt (nthB l q)) y r ∧ GetR (cel (nthB l' q)) (cnt (nthB l' q)) y r) : l' = l := by
  refine List.ext_getElem hn fun q hq hq' => ?_
  have e1 : l[q] = nthB l q := by simp [nthB, List.getD_eq_getElem?_getD, hq']
  have e2 : l'[q] = nthB l' q := by simp [nthB, List.getD_eq_getElem?_getD, hq]
  rw [e1, e2]
  obtain ⟨v1, z1⟩ := h.good q hq'
  obtain ⟨v2, z2⟩ := h'.good q hq
  exact (pages_same v1 v2 (z1.trans z2.symm) (fun i hi => hs q _ (List.mem_append_left _ (allL_has l _ q i hq' hi))) (fun i hi => hs q _ (List.mem_append_right _ (allL_has l' _ q i hq hi)))).symm
/-- a page with another byte -/
def withByte (p : ByteArray) (k : Nat) (y : UInt8) : ByteArray := p.extract 0 k ++ ⟨#[y]⟩ ++ p.extract (k + 1) p.size
theorem withByte_size (p : ByteArray) (k : Nat) (y : UInt8) (h : k < p.size) : (withByte p k y).size = p.size := by
  unfold withByte
  simp only [ByteArray.size_append, ByteArray.size_extract]
  have : (⟨#[y]⟩ : ByteArray).size = 1 := rfl
  omega
theorem withByte_at (p : ByteArray) (k : Nat) (y : UInt8) (h : k < p.size) : bt (withByte p k y) k = y.toNat := by
  have hs := withByte_size p k y h
  rw [← get_bt _ k (by omega)]
  unfold withByte
  have h1 : (p.extract 0 k).size = k := by rw [ByteArray.size_extract]; omega
  have h2 : (⟨#[y]⟩ : ByteArray).size = 1 := rfl
  rw [ByteArray.getElem_append_left (by rw [ByteArray.size_append, h1, h2]; omega), ByteArray.getElem_append_right (by omega)]
  simp only [h1, Nat.sub_self]
  rfl
theorem withByte_ne (p : ByteArray) (k : Nat) (y : UInt8) (h : k < p.size) (hy : y.toNat ≠ bt p k) : withByte p k y ≠ p := fun e => hy (by rw [← withByte_at p k y h, e])

theorem u8_xor_nat (a b : Nat) (ha : a < 256) (hb : b < 256) : bits .xor .u8 (a : Int) (b : Int) = ((a ^^^ b : Nat) : Int) := by
  have hx : a ^^^ b < 2 ^ 8 := Nat.xor_lt_two_pow (by omega) (by omega)
  have e : ∀ c : Nat, c < 256 → (BitVec.ofInt 8 (c : Int)).toNat = c := fun c hc => by
    rw [BitVec.ofInt_natCast, BitVec.toNat_ofNat]; exact Nat.mod_eq_of_lt (by omega)
  show IntKind.u8.wrap ((BitVec.ofInt 8 (a : Int) ^^^ BitVec.ofInt 8 (b : Int)).toNat : Int) = _
  rw [BitVec.toNat_xor, e a ha, e b hb]
  simp only [IntKind.wrap, IntKind.signed, IntKind.bits]
  simp only [Nat.reducePow] at hx
  simp
  omega
theorem xor_byte (x : UInt8) (c : Nat) (h1 : 1 ≤ c) (h2 : c ≤ 255) : ∃ y : UInt8, bits .xor .u8 (x.toNat : Int) (c : Int) = (y.toNat : Int) ∧ y.toNat ≠ x.toNat := by
  have hx := x.toNat_lt
  have hl : x.toNat ^^^ c < 2 ^ 8 := Nat.xor_lt_two_pow (by omega) (by omega)
  refine ⟨UInt8.ofNat (x.toNat ^^^ c), ?_, ?_⟩
  · rw [u8_xor_nat _ _ (by omega) (by omega)]
    simp only [UInt8.toNat_ofNat']
    rw [Nat.mod_eq_of_lt hl]
  · simp only [UInt8.toNat_ofNat']
    rw [Nat.mod_eq_of_lt hl]
    intro h
    have : x.toNat ^^^ (x.toNat ^^^ c) = x.toNat ^^^ x.toNat := by rw [h]
    rw [← Nat.xor_assoc, Nat.xor_self, Nat.zero_xor] at this
    omega
theorem u64_ge (x : Int) : 0 ≤ IntKind.u64.wrap x := by
  simp only [IntKind.wrap, IntKind.signed, IntKind.bits]
  exact Int.emod_nonneg _ (by decide)
theorem withByte_other (p : ByteArray) (k : Nat) (y : UInt8) (h : k < p.size) (i : Nat) (hi : i ≠ k) : bt (withByte p k y) i = bt p i := by
  have hs : ∀ s : ByteArray, ∀ i, bt s i = (s.data.toList.getD i 0).toNat := fun _ _ => rfl
  rw [hs, hs]
  congr 1
  unfold withByte
  rw [List.getD_eq_getElem?_getD, List.getD_eq_getElem?_getD]
  simp only [ByteArray.data_append, Array.toList_append, ByteArray.data_extract, Array.toList_extract, List.extract_eq_take_drop, List.drop_zero, Nat.sub_zero]
  have hl : p.data.toList.length = p.size := by simp
  have h1 : (p.data.toList.take k).length = k := by rw [List.length_take]; omega
  rw [List.append_assoc]
  rcases Nat.lt_trichotomy i k with hlt | e | hgt
  · rw [List.getElem?_append_left (by omega), List.getElem?_take, if_pos hlt]
  · exact absurd e hi
  · rw [List.getElem?_append_right (by omega), h1, List.getElem?_append_right (by simp; omega)]
    simp only [List.length_cons, List.length_nil]
    rw [List.getElem?_take, List.getElem?_drop]
    by_cases hip : i < p.size
    · rw [if_pos (by omega)]
      congr 2
      omega
    · rw [show p.data.toList[i]? = none from List.getElem?_eq_none (by omega)]
      split
      · rw [List.getElem?_eq_none (by omega)]
      · rfl
/-- an image of which one byte was changed, and which Load takes: another area of the same size -/
theorem damaged {size : Nat} {l : List ByteArray} (h : GoodL size l) (k : Nat) (y : UInt8) (hk : k < (imgB size l).size) (hy : y.toNat ≠ bt (imgB size l) k) {hs : (withByte (imgB size l) k y).size ≤ 140737488355328} {r : LdR} (e : loadF (withByte (imgB size l) k y) hs = r) {size' : Nat} {l' : List ByteArray} (hr : r.2.2 = some (size', l')) :
    size' = size ∧ l'.length = l.length ∧ GoodL size' l' ∧ l' ≠ l := by
  obtain ⟨g1, g2, g3⟩ := load_sound e hr
  have hsz := withByte_size (imgB size l) k y hk
  have hI := imgB_size h.sizes
  rw [hsz, hI] at g2
  have o : ∀ i, i ≠ k → bt (imgB size' l') i = bt (imgB size l) i := fun i hi => by rw [← g3]; exact withByte_other _ k y hk i hi
  have t4 := imgB_two4 h
  have t6 := imgB_two6 h
  have t4' := imgB_two4 g1
  have t6' := imgB_two6 g1
  have hpos := h.pos
  have hpos' := g1.pos
  unfold twoF at t4 t6 t4' t6'
  have key : size' = size ∧ l'.length = l.length := by
    by_cases hk45 : k = 4 ∨ k = 5
    · have h6 := o 6 (by omega)
      have h7 := o 7 (by omega)
      have hn : l'.length = l.length := by rw [← t6', ← t6, h6, h7]
      rw [hn] at g2
      have : l.length * size = l.length * size' := by omega
      exact ⟨(Nat.eq_of_mul_eq_mul_left (by omega) this).symm, hn⟩
    · have h4 := o 4 (by omega)
      have h5 := o 5 (by omega)
      have hz : size' = size := by rw [← t4', ← t4, h4, h5]
      rw [hz] at g2
      have : l.length * (size + 1) = l'.length * (size + 1) := by rw [Nat.mul_add, Nat.mul_add]; omega
      exact ⟨hz, (Nat.eq_of_mul_eq_mul_right (by omega) this).symm⟩
  refine ⟨key.1, key.2, g1, fun e => ?_⟩
  rw [e, key.1] at g3
  exact withByte_ne _ k y hk hy g3
end Go.Proofs.YtnileonlabpbpaaGreat
