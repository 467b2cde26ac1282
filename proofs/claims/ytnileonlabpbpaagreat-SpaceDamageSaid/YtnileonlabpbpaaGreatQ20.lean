/- SpAE; SpAD; SpAL (merged by group.py) -/
import Derived.Test.YtnileonlabpbpaaGreatQ15
import Derived.Test.YtnileonlabpbpaaGreatQ19
import Derived.Lib.AppendStr
import Derived.Lib.SlBytesConst
import Derived.Deep.RegionLawGrows
namespace Go.Proofs.YtnileonlabpbpaaGreat
section
open Go.RowKit
set_option linter.unusedVariables false
set_option linter.unusedSimpArgs false
set_option linter.unusedSectionVars false
set_option maxRecDepth 20000

noncomputable def lvB (size : Nat) (p : ByteArray) : UInt8 := UInt8.ofNat (levP size p)
def headB (size n : Nat) : List UInt8 := [65, 82, 69, 65, UInt8.ofNat (size / 256), UInt8.ofNat size, UInt8.ofNat (n / 256), UInt8.ofNat n]
def pgsL (l : List ByteArray) : List UInt8 := l.flatMap (·.data.toList)
/-- the bytes of an area's image -/
noncomputable def imgL (size : Nat) (l : List ByteArray) : List UInt8 := headB size l.length ++ (l.map (lvB size) ++ pgsL l)
noncomputable def imgB (size : Nat) (l : List ByteArray) : ByteArray := ⟨(imgL size l).toArray⟩
theorem pgsL_len {size : Nat} : ∀ (l : List ByteArray), (∀ p ∈ l, p.size = size) → (pgsL l).length = l.length * size := by
  intro l
  induction l with
  | nil => intro _; simp [pgsL]
  | cons p l ih =>
    intro h
    have h1 := ih (fun q hq => h q (List.mem_cons_of_mem _ hq))
    have h2 := h p List.mem_cons_self
    unfold pgsL at *
    rw [List.flatMap_cons, List.length_append, h1, List.length_cons, Nat.add_mul]
    have : p.data.toList.length = p.size := by simp
    omega
theorem pgsL_at {size : Nat} : ∀ (l : List ByteArray) (i : Nat), (∀ p ∈ l, p.size = size) → i < l.length → ((pgsL l).drop (i * size)).take size = (nthB l i).data.toList := by
  intro l
  induction l with
  | nil => intro i _ h; simp at h
  | cons p l ih =>
    intro i h hi
    have h2 := h p List.mem_cons_self
    have hl : p.data.toList.length = size := by rw [← h2]; simp
    unfold pgsL
    rw [List.flatMap_cons]
    cases i with
    | zero =>
      rw [Nat.zero_mul, List.drop_zero, ← hl, List.take_left]
      rfl
    | succ i =>
      have := ih i (fun q hq => h q (List.mem_cons_of_mem _ hq)) (by simpa using hi)
      rw [show (i + 1) * size = p.data.toList.length + i * size from by rw [Nat.add_mul, hl]; omega, List.drop_length_add_append]
      exact this
theorem GoodL.mem {size : Nat} {l : List ByteArray} (h : GoodL size l) : ∀ p ∈ l, ValidR p ∧ p.size = size := by
  intro p hp
  obtain ⟨i, hi, rfl⟩ := List.getElem_of_mem hp
  have := h.good i hi
  simpa [nthB, List.getD_eq_getElem?_getD, hi] using this
theorem imgL_len {size : Nat} {l : List ByteArray} (h : ∀ p ∈ l, p.size = size) : (imgL size l).length = 8 + l.length + l.length * size := by
  unfold imgL headB
  rw [List.length_append, List.length_append, pgsL_len l h]
  simp
  omega
theorem imgB_size {size : Nat} {l : List ByteArray} (h : ∀ p ∈ l, p.size = size) : (imgB size l).size = 8 + l.length + l.length * size := by
  rw [← imgL_len h]
  rfl
theorem bt_list (s : ByteArray) (L : List UInt8) (h : s.data.toList = L) (i : Nat) : bt s i = (L.getD i 0).toNat := by
  unfold bt
  rw [h]
theorem imgB_list (size : Nat) (l : List ByteArray) : (imgB size l).data.toList = imgL size l := rfl
theorem u8n (x : Nat) : (UInt8.ofNat x).toNat = x % 256 := by simp
theorem pageAt_list (s : ByteArray) (n size i : Nat) : (pageAt s n size i).data.toList = (s.data.toList.drop (8 + n + i * size)).take size := by
  unfold pageAt
  rw [ByteArray.data_extract, Array.toList_extract, List.extract_eq_take_drop]
  congr 1
  omega
theorem bytes_ext {a b : ByteArray} (h : a.data.toList = b.data.toList) : a = b := by
  cases a; cases b
  congr 1
  exact Array.ext' h
theorem take_drop_append (A B : List UInt8) (k m : Nat) : ((A ++ B).drop (A.length + k)).take m = (B.drop k).take m := by
  rw [List.drop_length_add_append]
theorem levP_byte {p : ByteArray} (hv : ValidR p) : (lvB p.size p).toNat = levP p.size p := by
  unfold lvB
  rw [u8n, Nat.mod_eq_of_lt (by have := levP_le hv; omega)]
section
variable {size : Nat} {l : List ByteArray} (h : GoodL size l)
include h
theorem GoodL.sizes : ∀ p ∈ l, p.size = size := fun p hp => (h.mem p hp).2
theorem imgB_page (i : Nat) (hi : i < l.length) : pageAt (imgB size l) l.length size i = nthB l i := by
  refine bytes_ext ?_
  rw [pageAt_list, imgB_list, ← pgsL_at l i h.sizes hi]
  unfold imgL
  rw [← List.append_assoc, show 8 + l.length + i * size = (headB size l.length ++ l.map (lvB size)).length + i * size from by simp [headB]; omega]
  exact take_drop_append _ _ _ _
theorem imgB_lev (i : Nat) (hi : i < l.length) : bt (imgB size l) (8 + i) = levP size (nthB l i) := by
  rw [bt_list _ _ (imgB_list size l)]
  unfold imgL
  rw [List.getD_eq_getElem?_getD, show 8 + i = (headB size l.length).length + i from rfl, List.getElem?_append_right (by omega), Nat.add_sub_cancel_left, List.getElem?_append_left (by simpa using hi), List.getElem?_map, List.getElem?_eq_getElem hi]
  obtain ⟨h1, h2⟩ := h.good i hi
  have e : nthB l i = l[i] := by simp [nthB, List.getD_eq_getElem?_getD, hi]
  rw [e] at h1 h2 ⊢
  have := levP_byte h1
  rw [h2] at this
  simpa using this
theorem imgB_head (i : Nat) (hi : i < 8) : bt (imgB size l) i = ((headB size l.length).getD i 0).toNat := by
  rw [bt_list _ _ (imgB_list size l)]
  unfold imgL
  rw [List.getD_eq_getElem?_getD, List.getElem?_append_left (by exact hi), ← List.getD_eq_getElem?_getD]
theorem imgB_two4 : twoF (imgB size l) 4 = size := by
  have hz : 32 ≤ size ∧ size ≤ 4096 := by have := h.sz; simp [sizeB] at this; omega
  unfold twoF
  rw [imgB_head h 4 (by omega), imgB_head h 5 (by omega)]
  simp only [headB, List.getD_eq_getElem?_getD]
  simp
  omega
theorem imgB_two6 : twoF (imgB size l) 6 = l.length := by
  have hle := h.le
  unfold twoF
  rw [imgB_head h 6 (by omega), imgB_head h 7 (by omega)]
  simp only [headB, List.getD_eq_getElem?_getD]
  simp
  omega
theorem imgB_le : (imgB size l).size ≤ 900000 := by
  have hz : 32 ≤ size ∧ size ≤ 4096 := by have := h.sz; simp [sizeB] at this; omega
  rw [imgB_size h.sizes]
  have hle := h.le
  have : l.length * size ≤ 200 * 4096 := Nat.mul_le_mul hle hz.2
  omega
theorem imgB_levS : ∀ d i, i + d = l.length → levS (imgB size l) l.length size l d i = (0, 0, some (size, l)) := by
  intro d
  induction d with
  | zero => intro i hi; exact lev_end (by rw [imgB_size h.sizes]; omega)
  | succ d ih =>
    intro i hi
    rw [lev_yes (imgB_lev h i (by omega))]
    exact ih (i + 1) (by omega)
theorem imgB_pageS (hs : (imgB size l).size ≤ 140737488355328) : ∀ d i, i + d = l.length → pageS (imgB size l) hs l.length size d i (l.take i) = (0, 0, some (size, l)) := by
  intro d
  induction d with
  | zero =>
    intro i hi
    rw [show l.take i = l from List.take_of_length_le (by omega)]
    exact imgB_levS h l.length 0 (by omega)
  | succ d ih =>
    intro i hi
    have hi' : i < l.length := by omega
    have hp := imgB_page h i hi'
    have hle : (i + 1) * size ≤ l.length * size := Nat.mul_le_mul_right _ (by omega)
    rw [Nat.add_mul] at hle
    rw [page_yes (by rw [imgB_size h.sizes]; omega) (by rw [hp]; exact (h.good i hi').1), hp]
    have e : l.take i ++ [nthB l i] = l.take (i + 1) := by
      rw [List.take_add_one, nthB_some hi']
      rfl
    rw [e]
    exact ih (i + 1) (by omega)
theorem imgB_load (hs : (imgB size l).size ≤ 140737488355328) : loadF (imgB size l) hs = (0, 0, some (size, l)) := by
  have hL := imgB_size h.sizes
  have hpos := h.pos
  have hm : ∀ i, i < 4 → i < (imgB size l).size ∧ bt (imgB size l) i = markB i := by
    intro i hi
    refine ⟨by omega, ?_⟩
    rw [imgB_head h i (by omega)]
    match i, hi with
    | 0, _ => rfl
    | 1, _ => rfl
    | 2, _ => rfl
    | 3, _ => rfl
  rw [show loadF (imgB size l) hs = markS (imgB size l) hs 4 0 from if_neg (by have := imgB_le h; omega)]
  rw [markS_yes (hm 0 (by omega)).1 (hm 0 (by omega)).2, markS_yes (hm 1 (by omega)).1 (hm 1 (by omega)).2, markS_yes (hm 2 (by omega)).1 (hm 2 (by omega)).2, markS_yes (hm 3 (by omega)).1 (hm 3 (by omega)).2]
  show headS (imgB size l) hs = _
  rw [head_ok (by omega) (by rw [imgB_two4 h, h.sz]; simp) (by omega) (by rw [imgB_two6 h]; exact ⟨h.pos, h.le⟩), imgB_two4 h, imgB_two6 h]
  have := imgB_pageS h hs l.length 0 (by omega)
  simpa using this
end
/-! what Load takes -/
theorem levS_some {s : ByteArray} {n size a c : Nat} {l : List ByteArray} : ∀ d i r, levS s n size l d i = r → (∃ x, r.2.2 = some x) → r = (0, 0, some (size, l)) ∧ s.size ≤ 8 + n + n * size ∧ ∀ j, i ≤ j → j < i + d → bt s (8 + j) = levP size (nthB l j) := by
  intro d
  induction d with
  | zero =>
    intro i r e ⟨x, hx⟩
    by_cases h : 8 + n + n * size < s.size
    · rw [lev_long h] at e; subst e; cases hx
    · rw [lev_end h] at e
      exact ⟨e.symm, by omega, fun j h1 h2 => by omega⟩
  | succ d ih =>
    intro i r e hx
    by_cases h : bt s (8 + i) = levP size (nthB l i)
    · rw [lev_yes h] at e
      obtain ⟨h1, h2, h3⟩ := ih (i + 1) r e hx
      refine ⟨h1, h2, fun j hj1 hj2 => ?_⟩
      by_cases hij : j = i
      · rw [hij]; exact h
      · exact h3 j (by omega) (by omega)
    · rw [lev_no h] at e
      obtain ⟨x, hx⟩ := hx
      subst e; cases hx
theorem pageS_some {s : ByteArray} {hs : s.size ≤ 140737488355328} {n size : Nat} : ∀ d i l r, pageS s hs n size d i l = r → (∃ x, r.2.2 = some x) → l.length = i → (∀ j, j < i → nthB l j = pageAt s n size j ∧ ValidR (pageAt s n size j) ∧ 8 + n + j * size + size ≤ s.size) →
    ∃ L, r = (0, 0, some (size, L)) ∧ L.length = i + d ∧ (∀ j, j < i + d → nthB L j = pageAt s n size j ∧ ValidR (pageAt s n size j) ∧ 8 + n + j * size + size ≤ s.size) ∧ s.size ≤ 8 + n + n * size ∧ ∀ j, j < n → bt s (8 + j) = levP size (nthB L j) := by
  intro d
  induction d with
  | zero =>
    intro i l r e hx hl hj
    obtain ⟨h1, h2, h3⟩ := levS_some (a := 0) (c := 0) n 0 r e hx
    exact ⟨l, h1, by omega, hj, h2, fun j hjn => h3 j (by omega) (by omega)⟩
  | succ d ih =>
    intro i l r e hx hl hj
    by_cases h : s.size < 8 + n + i * size + size
    · rw [page_short h] at e
      obtain ⟨x, hx⟩ := hx
      subst e; cases hx
    · by_cases hv : ValidR (pageAt s n size i)
      · rw [page_yes h hv] at e
        obtain ⟨L, h1, h2, h3, h4, h5⟩ := ih (i + 1) (l ++ [pageAt s n size i]) r e hx (by simp [hl]) (fun j hj' => by
          rw [nthB_append _ _ _ (by omega)]
          by_cases hji : j < l.length
          · rw [if_pos hji]; exact hj j (by omega)
          · rw [if_neg hji, show j = i from by omega]; exact ⟨rfl, hv, by omega⟩)
        exact ⟨L, h1, by omega, fun j hj' => h3 j (by omega), h4, h5⟩
      · rw [page_no h hv] at e
        obtain ⟨x, hx⟩ := hx
        subst e; cases hx
theorem list_of_bt {s : ByteArray} {L : List UInt8} (hl : s.size = L.length) (h : ∀ i, i < s.size → bt s i = (L.getD i 0).toNat) : s.data.toList = L := by
  refine List.ext_getElem (by simpa using hl) fun i h1 h2 => ?_
  have := h i (by simpa using h1)
  unfold bt at this
  rw [List.getD_eq_getElem?_getD, List.getElem?_eq_getElem h1, List.getD_eq_getElem?_getD, List.getElem?_eq_getElem h2] at this
  exact UInt8.toNat_inj.1 this
theorem bt_at {s : ByteArray} {L : List UInt8} (h : s.data.toList = L) (i : Nat) : s.data.toList.getD i 0 = L.getD i 0 := by rw [h]
theorem load_sound {s : ByteArray} {hs : s.size ≤ 140737488355328} {r : LdR} (e : loadF s hs = r) {size : Nat} {l : List ByteArray} (hr : r.2.2 = some (size, l)) : GoodL size l ∧ s.size = 8 + l.length + l.length * size ∧ s = imgB size l := by
  by_cases h9 : 900000 < s.size
  · rw [show loadF s hs = (0, 3, none) from if_pos h9] at e; subst e; cases hr
  rw [show loadF s hs = markS s hs 4 0 from if_neg h9] at e
  have hmk : ∀ d i, markS s hs d i = r → headS s hs = r ∧ ∀ j, i ≤ j → j < i + d → j < s.size ∧ bt s j = markB j := by
    intro d
    induction d with
    | zero => intro i e; exact ⟨e, fun j h1 h2 => by omega⟩
    | succ d ih =>
      intro i e
      by_cases h : i < s.size ∧ bt s i = markB i
      · rw [markS_yes h.1 h.2] at e
        obtain ⟨h1, h2⟩ := ih (i + 1) e
        refine ⟨h1, fun j hj1 hj2 => ?_⟩
        by_cases hij : j = i
        · rw [hij]; exact h
        · exact h2 j (by omega) (by omega)
      · rw [markS_no h] at e; subst e; cases hr
  obtain ⟨e, hmq⟩ := hmk 4 0 e
  by_cases h6 : s.size < 6
  · rw [head_six h6] at e; subst e; cases hr
  by_cases hz : sizeB (twoF s 4) = false
  · rw [head_size h6 hz] at e; subst e; cases hr
  by_cases h8 : s.size < 8
  · rw [head_eight h6 hz h8] at e; subst e; cases hr
  by_cases hn : 1 ≤ twoF s 6 ∧ twoF s 6 ≤ 200
  rotate_left
  · rw [head_count h6 hz h8 hn] at e; subst e; cases hr
  rw [head_ok h6 hz h8 hn] at e
  obtain ⟨L, h1, h2, h3, h4, h5⟩ := pageS_some (twoF s 6) 0 [] r e ⟨_, hr⟩ rfl (fun j hj => by omega)
  subst h1
  simp only [Option.some.injEq, Prod.mk.injEq] at hr
  obtain ⟨e1, e2⟩ := hr
  subst e2
  have hL : L.length = twoF s 6 := by omega
  have hzz : 32 ≤ size ∧ size ≤ 4096 := by
    have hz' : sizeB (twoF s 4) = true := by simpa using hz
    rw [← e1]; simp [sizeB] at hz'; omega
  have hlast := (h3 (twoF s 6 - 1) (by omega)).2.2
  have hmul : (twoF s 6 - 1) * size + size = twoF s 6 * size := by
    have : twoF s 6 = (twoF s 6 - 1) + 1 := by omega
    conv => rhs; rw [this, Nat.add_mul]
    omega
  rw [e1] at hlast h3 h4 h5
  have hsz : s.size = 8 + L.length + L.length * size := by rw [hL]; omega
  have hg : GoodL size L := ⟨fun i hi => by
    obtain ⟨a1, a2, a3⟩ := h3 i (by omega)
    rw [a1]
    refine ⟨a2, ?_⟩
    unfold pageAt
    rw [ByteArray.size_extract]
    omega, by omega, by omega, by rw [← e1]; simpa using hz⟩
  refine ⟨hg, hsz, bytes_ext ?_⟩
  rw [imgB_list]
  refine list_of_bt (by rw [imgL_len hg.sizes]; exact hsz) fun i hi => ?_
  have key : ∀ L', imgL size L = L' → bt s i = (L'.getD i 0).toNat := by
    intro L' e
    subst e
    rw [← bt_list _ _ (imgB_list size L)]
    by_cases i8 : i < 8
    · rw [imgB_head hg i i8]
      have b4 := bt_lt s 4
      have b5 := bt_lt s 5
      have b6 := bt_lt s 6
      have b7 := bt_lt s 7
      have e4 : 256 * bt s 4 + bt s 5 = size := e1
      have e6 : 256 * bt s 6 + bt s 7 = L.length := hL.symm
      match i, i8 with
      | 0, _ => exact (hmq 0 (Nat.zero_le _) (by decide)).2
      | 1, _ => exact (hmq 1 (Nat.zero_le _) (by decide)).2
      | 2, _ => exact (hmq 2 (Nat.zero_le _) (by decide)).2
      | 3, _ => exact (hmq 3 (Nat.zero_le _) (by decide)).2
      | 4, _ => show bt s 4 = (UInt8.ofNat (size / 256)).toNat; rw [u8n]; omega
      | 5, _ => show bt s 5 = (UInt8.ofNat (size)).toNat; rw [u8n]; omega
      | 6, _ => show bt s 6 = (UInt8.ofNat (L.length / 256)).toNat; rw [u8n]; omega
      | 7, _ => show bt s 7 = (UInt8.ofNat (L.length)).toNat; rw [u8n]; omega
    · by_cases iL : i < 8 + L.length
      · have := h5 (i - 8) (by omega)
        rw [show 8 + (i - 8) = i from by omega] at this
        rw [this, ← imgB_lev hg (i - 8) (by omega), show 8 + (i - 8) = i from by omega]
      · have hsz0 : 0 < size := by omega
        obtain ⟨j, k, hk, hi2⟩ : ∃ j k, k < size ∧ i = 8 + L.length + j * size + k := ⟨(i - 8 - L.length) / size, (i - 8 - L.length) % size, Nat.mod_lt _ hsz0, by
          have := Nat.div_add_mod (i - 8 - L.length) size
          rw [Nat.mul_comm] at this
          omega⟩
        have hj : j < L.length := by
          apply Classical.byContradiction
          intro hge
          have : L.length * size ≤ j * size := Nat.mul_le_mul_right _ (by omega)
          omega
        have hp := (h3 j (by omega)).1
        rw [← imgB_page hg j hj, ← hL] at hp
        have hp2 := congrArg (fun p : ByteArray => p.data.toList.getD k 0) hp
        simp only [pageAt_list, List.getD_eq_getElem?_getD, List.getElem?_take, List.getElem?_drop, hk, if_true] at hp2
        unfold bt
        rw [List.getD_eq_getElem?_getD, List.getD_eq_getElem?_getD, hi2, ← hp2]
  exact key _ rfl
end
section
open Go.RowKit
set_option linter.unusedVariables false
set_option linter.unusedSimpArgs false
set_option linter.unusedSectionVars false
set_option maxRecDepth 20000

/-- bytes as elements -/
abbrev csB (x : UInt8) : List Value := [.int .u8 x.toNat]
theorem elemB : ElemG csB 62 5 1 1 where
  ht := Tryz.underlying62
  info := by
    have h : (Tryz.prog.info? 5).map (fun i => (i.zero, i.size, i.bytes)) = some (some (.int .u8 0), 1, 1) := by kernel_rfl
    cases hq : Tryz.prog.info? 5 with
    | none => simp [hq] at h
    | some i => simp [hq] at h; exact ⟨i, _, rfl, h.1, h.2.1, h.2.2, rfl⟩
  k0 := by omega
  hk := fun _ => rfl
  one := fun x u hu => by
    simp at hu
    subst hu; rfl
abbrev OwnB (w : World) (base : Nat) (v : Value) (l : List UInt8) : Prop := OwnG csB 5 1 w base v l
theorem flatB (l : List UInt8) : l.flatMap csB = l.map fun b => Value.int .u8 b.toNat := by
  induction l with
  | nil => rfl
  | cons a l ih => rw [List.flatMap_cons, ih, List.map_cons]; rfl
theorem strB (s : ByteArray) : Lib.strCells s = s.data.toList.flatMap csB := by rw [flatB]; rfl
/-- append(b, s...) of a text -/
theorem wpList_app_text {w : World} {base : Nat} {ops : Array Oper} {rest : List Oper} {o : Oper} {a : Act} {Q : Exit → Act → World → Prop} (hgd : o.guard = none) (s x : Operand) (ho : o.op = .call { callee := .builtin .append, args := #[s, x], argTypes := #[62, 9] }) {v : Value} {l : List UInt8} (hs : a.eval s = v) (h : OwnB w base v l)
    {t : ByteArray} (hx : a.eval x = .string t) (hle : l.length + t.size ≤ 140737488355328) (hbase : base ≤ w.heap.size)
    (hn : ∀ v' w', OwnB w' base v' (l ++ t.data.toList) → Below base w w' → wpList Tryz.prog ops Q rest (a.put o.dst v') w') : wpList Tryz.prog ops Q (o :: rest) a w := by
  obtain ⟨i, hi, hz, hs1, hb⟩ := u8_info
  obtain ⟨v', w', hr, ho', hg, _⟩ := Lib.run_append_own_string (P := Tryz.prog) w base 62 9 o.type 5 i Tryz.underlying62 Tryz.underlying9 hi hz hs1 hb v l.length _ h t (by unfold maxLen; omega) hle hbase
  refine Lib.wpList_append_run _ hgd s x _ _ ho _ _ hs hx _ _ hr (hn v' w' ?_ (Below.grown (Below.refl _ _) hg hbase (fun g hg => h.base_ g hg)))
  unfold OwnB OwnG
  rw [List.length_append, List.flatMap_append, ← strB]
  simpa using ho'
theorem byte_wrap (n : Nat) : IntKind.u8.wrap (n : Int) = ((UInt8.ofNat n).toNat : Int) := by
  simp [IntKind.wrap, IntKind.signed, IntKind.bits]
set_option maxHeartbeats 1000000 in
theorem simage_any (A g size cap : Nat) (l : List ByteArray) (lv : List UInt8) (w : World) (h : Sp w A g size l lv cap) :
    Calls Tryz.prog 29 #[.pointer (some ⟨A, 0, none⟩)] w fun e w' => e = .returned (.string (imgB size l)) ∧ Ext w w' := by
  have hle := h.le
  have hpos := h.pos
  have hcv := Lib.run_convert_bytes_const (P := Tryz.prog) w 62 5 #[.int .u8 65, .int .u8 82, .int .u8 69, .int .u8 65] 4 4 Tryz.underlying62 Tryz.underlying5
  have hx0 := (Ext.refl w).alloc (.cells #[.int .u8 65, .int .u8 82, .int .u8 69, .int .u8 65] 5 (4, 5))
  have hlit := World.alloc_heap_new w (.cells #[.int .u8 65, .int .u8 82, .int .u8 69, .int .u8 65] 5 (4, 5))
  have hs0 : (w.alloc (.cells #[.int .u8 65, .int .u8 82, .int .u8 69, .int .u8 65] 5 (4, 5))).heap.size = w.heap.size + 1 := by simp
  have hA1 := h.ar.ext hx0
  have g1 := hA1.pagesC
  have g2 := hA1.sizeC
  obtain ⟨i0, hi, hz0, hz1, hz2⟩ := u8_info
  have b1 : IntKind.u8.wrap ((size : Int) / 256) = ((UInt8.ofNat (size / 256)).toNat : Int) := byte_wrap (size / 256)
  have b2 : IntKind.u8.wrap (size : Int) = ((UInt8.ofNat size).toNat : Int) := byte_wrap size
  have b3 : IntKind.u8.wrap ((l.length : Int) / 256) = ((UInt8.ofNat (l.length / 256)).toNat : Int) := byte_wrap (l.length / 256)
  have b4 : IntKind.u8.wrap (l.length : Int) = ((UInt8.ofNat l.length).toNat : Int) := byte_wrap l.length
  obtain ⟨x1, E1⟩ : ∃ x, UInt8.ofNat (size / 256) = x := ⟨_, rfl⟩
  obtain ⟨x2, E2⟩ : ∃ x, UInt8.ofNat size = x := ⟨_, rfl⟩
  obtain ⟨x3, E3⟩ : ∃ x, UInt8.ofNat (l.length / 256) = x := ⟨_, rfl⟩
  obtain ⟨x4, E4⟩ : ∃ x, UInt8.ofNat l.length = x := ⟨_, rfl⟩
  rw [E1] at b1
  rw [E2] at b2
  rw [E3] at b3
  rw [E4] at b4
  have HB := Lib.hid (And.intro (And.intro E1 E2) (And.intro E3 E4))
  clear E1 E2 E3 E4
  generalize hw1 : w.alloc (.cells #[.int .u8 65, .int .u8 82, .int .u8 69, .int .u8 65] 5 (4, 5)) = w1 at *
  go_enter Tryz.func29, Tryz.ntmps29
  go_wp2
  have hd0 : ∀ j (u : Value), ([.int .u8 65, .int .u8 82, .int .u8 69, .int .u8 65] : List Value)[j]? = some u → w1.cell? ⟨w.heap.size, j, none⟩ = some u := by
    intro j u hj
    unfold World.cell?
    simp only [hlit]
    simpa using hj
  have hcell : ∀ j (u : Value), ([.int .u8 (x1.toNat : Int), .int .u8 (x2.toNat : Int), .int .u8 (x3.toNat : Int), .int .u8 (x4.toNat : Int)] : List Value)[j]? = some u → (w1.alloc (.cells #[.int .u8 (x1.toNat : Int), .int .u8 (x2.toNat : Int), .int .u8 (x3.toNat : Int), .int .u8 (x4.toNat : Int)] 5)).cell? ⟨w.heap.size + 1, j, none⟩ = some u := by
    intro j u hj
    unfold World.cell?
    rw [alloc_at w1 _ _ hs0]
    simpa using hj
  go_region_held3 (fun w' => w'.cell? ⟨A, 200, none⟩ = some (.int .i64 size)) (first | go_keep | exact g5)
    (first
      | (refine step_append_grows rfl (.tmp 16) (.tmp 33) 62 rfl 5 i0 (.int .u8 0) 1 1 Tryz.underlying62 hi hz0 hz1 hz2 rfl (by decide) (some ⟨w.heap.size, 0, none⟩) 4 4 [.int .u8 65, .int .u8 82, .int .u8 69, .int .u8 65] rfl (fun e => by cases e) rfl ?_ ⟨w.heap.size + 1, 0, none⟩ 4 4 [.int .u8 (x1.toNat : Int), .int .u8 (x2.toNat : Int), .int .u8 (x3.toNat : Int), .int .u8 (x4.toNat : Int)] ?_ rfl ?_ ?_ (by decide) (by decide) (by decide) ?_
         · intro b hb j u hj; injection hb with hb; subst hb; rw [add_flat, Nat.zero_add]; exact ((Ext.refl w1).alloc _).drew.cell (hd0 j u hj)
         · rfl
         · intro j u hj; rw [add_flat, Nat.zero_add]; exact hcell j u hj
         · intro u hu; simp at hu; rcases hu with rfl | rfl | rfl | rfl <;> rfl
         intro v5 w5 ho5 hg5; have hx5 := ((Ext.refl w1).alloc (.cells #[.int .u8 (x1.toNat : Int), .int .u8 (x2.toNat : Int), .int .u8 (x3.toNat : Int), .int .u8 (x4.toNat : Int)] 5)).drew.trans (Below.grown (Below.refl _ _) hg5 (Nat.le_refl _) (fun k hk => by cases hk)); have g5 := hx5.cell g2)
      | fail)
  have ho : OwnB w5 w1.heap.size v5 (headB size l.length) := by
    have h1 := ownsRow_base ho5 (show w1.heap.size ≤ _ from ((Ext.refl w1).alloc (.cells #[.int .u8 (x1.toNat : Int), .int .u8 (x2.toNat : Int), .int .u8 (x3.toNat : Int), .int .u8 (x4.toNat : Int)] 5)).drew.size)
    have e : (headB size l.length).flatMap csB = [.int .u8 65, .int .u8 82, .int .u8 69, .int .u8 65] ++ [.int .u8 (x1.toNat : Int), .int .u8 (x2.toNat : Int), .int .u8 (x3.toNat : Int), .int .u8 (x4.toNat : Int)] := by
      obtain ⟨⟨e1, e2⟩, e3, e4⟩ := HB.out
      unfold headB
      rw [e1, e2, e3, e4]
      rfl
    unfold OwnB OwnG
    rw [e]
    exact h1
  have hS5 := h.ext (hx0.trans hx5)
  have hSz5 := hx5.size
  clear ho5 hg5 hcell hd0 g1 g2 hA1
  have g1 := hS5.ar.pagesC
  have hll := h.ar.len
  have hlv : SlG csB w5 (some ⟨A, 0, none⟩) 200 (lv.take l.length) := by
    refine ⟨fun i x hi => ⟨A, 0, rfl, fun j u hj => ?_⟩, by rw [List.length_take]; omega, by omega⟩
    rw [List.getElem?_take] at hi
    split at hi
    · have hl := hS5.ar.level i (by omega)
      have hx : nthL lv i = x := by unfold nthL; rw [List.getD_eq_getElem?_getD, hi]; rfl
      rw [hx] at hl
      match j, hj with
      | 0, hj =>
        simp at hj
        subst hj
        simpa using hl
      | j + 1, hj => simp at hj
    · cases hi
  have HV := Lib.hid (show lv.take l.length = l.map (lvB size) from by
    refine List.ext_getElem (by rw [List.length_take, List.length_map]; omega) fun i h1 h2 => ?_
    rw [List.length_map] at h2
    have := h.lev i h2
    unfold nthL nthB at this
    rw [List.getD_eq_getElem?_getD, List.getElem?_eq_getElem (show i < lv.length from by omega), List.getD_eq_getElem?_getD, List.getElem?_eq_getElem h2] at this
    rw [List.getElem_take, List.getElem_map]
    exact this)
  have HI := Lib.hid (show imgL size l = headB size l.length ++ (l.map (lvB size) ++ pgsL l) from rfl)
  have HT := Lib.hid (show (lv.take l.length).length = l.length from by rw [List.length_take, h.ar.len]; omega)
  have HH := Lib.hid (show (headB size l.length).length = 8 from rfl)
  have hpl : (l.length : Int) ≤ 200 := by omega
  generalize headB size l.length = HD at *
  go_wp2_with (at_builtin; refine wpList_app_G _ elemB rfl _ _ rfl (base := w1.heap.size) rfl ho (m := lv.take l.length) (by rw [HT.out]; rfl) hlv (fun e => by cases e) (by rw [HT.out, HH.out]; omega) (by rw [HT.out, HH.out]; omega) hSz5 ?_; intro v6 w6 ho6 hb6; have hx6 := below_ext (hx0.trans hx5) hb6 hx0.size; have hS6 := h.ext hx6; have g6 := hS6.ar.pagesC)
  have hG := h.goodL
  have hz := h.sizes
  have HL8 := Lib.hid (show (HD ++ lv.take l.length).length = 8 + l.length from by rw [List.length_append, HT.out, HH.out])
  have HI2 := Lib.hid (show imgL size l = (HD ++ lv.take l.length) ++ pgsL l from by rw [HI.out, HV.out, List.append_assoc])
  have hb1 : w1.heap.size ≤ w6.heap.size := Nat.le_trans hSz5 hb6.size
  have hxb := hx0.size
  clear hlv ho hS5 g1 hS6
  generalize HD ++ lv.take l.length = H0 at *
  go_loopw [3, 6, 48] (fun o _ i wr => ∃ k : Nat, k ≤ l.length ∧ i = .int .i64 k ∧ OwnB wr w1.heap.size o (H0 ++ pgsL (l.take k)) ∧ Ext w wr ∧ w1.heap.size ≤ wr.heap.size) (fun _ _ i _ => l.length - (intOf i).toNat)
  case atStart => exact ⟨0, by omega, rfl, by simpa [pgsL] using ho6, hx6, hb1⟩
  case round =>
    obtain ⟨k, hk, rfl, hok, hx, hsz⟩ := hrel
    have hpl : (pgsL (l.take k)).length = k * size := by
      rw [pgsL_len (size := size) _ (fun p hp => hG.sizes p (List.mem_of_mem_take hp)), List.length_take, Nat.min_eq_left hk]
    have hmul : k * size ≤ 200 * 4096 := Nat.mul_le_mul (by omega) hz.2
    by_cases hlt : k < l.length
    · have hcell := (nthCell h k hlt)
      have hcr := hx.cell hcell
      have c1 : (k : Int) < l.length := by omega
      have hzp := (hG.good k hlt).2
      have HS := Lib.hid (show pgsL (l.take (k + 1)) = pgsL (l.take k) ++ (nthB l k).data.toList from by
        unfold pgsL
        rw [List.take_add_one, nthB_some hlt, List.flatMap_append]
        simp)
      have HLL := Lib.hid (show (H0 ++ pgsL (l.take k)).length + (nthB l k).size ≤ 140737488355328 from by rw [List.length_append, HL8.out, hpl, hzp]; omega)
      clear hcell hpl hmul
      generalize nthB l k = pk at *
      generalize pgsL (l.take k) = PK at *
      go_wp2_with (at_builtin; refine wpList_app_text rfl _ _ rfl rfl hok rfl HLL.out hsz ?_; intro v7 w7 ho7 hb7)
      refine ⟨⟨k + 1, by omega, by go_num, by rw [HS.out, ← List.append_assoc]; exact ho7, below_ext hx hb7 hxb, Nat.le_trans hsz hb7.size⟩, by simp [intOf]; omega⟩
    · obtain rfl : k = l.length := by omega
      rw [List.take_length] at hok hpl
      obtain ⟨gf, cf, rfl, _, _, _, _⟩ := hok.tight (by rw [List.length_append, HL8.out]; omega)
      have hF := hok.slG elemB (by rw [List.length_append, HL8.out, hpl]; omega)
      obtain ⟨PF, cF, eF, hSF⟩ := hF
      simp only [Value.slice.injEq] at eF
      obtain ⟨rfl, _, rfl⟩ := eF
      have hcvF := run_convert_bytes_back (P := Tryz.prog) wr 62 9 5 ⟨gf, 0, none⟩ cf (H0 ++ pgsL l) Tryz.underlying62 Tryz.underlying5 Tryz.underlying9 (fun j hj => by
        obtain ⟨b', o', e', hc⟩ := hSF.at_ j _ (List.getElem?_eq_getElem hj)
        simp only [Option.some.injEq, Addr.mk.injEq, and_true] at e'
        obtain ⟨rfl, rfl⟩ := e'
        have := hc 0 _ rfl
        rw [add_flat, Nat.zero_add]
        simpa using this)
      have HE := Lib.hid (show (⟨(H0 ++ pgsL l).toArray⟩ : ByteArray) = imgB size l from by unfold imgB; rw [HI2.out])
      clear hok hSF hpl
      generalize H0 ++ pgsL l = FF at *
      go_wp2
      go_ret
      exact ⟨by rw [HE.out]; rfl, hx⟩
end
section
open Go.RowKit
set_option linter.unusedVariables false
set_option linter.unusedSimpArgs false
set_option linter.unusedSectionVars false
set_option maxRecDepth 20000

set_option maxHeartbeats 1000000 in
theorem refImage7 (P : Option Addr) (size cap : Nat) (l : List ByteArray) {w : World} (h : RS w P cap size l) :
    Calls Tryz.prog 30 #[.agg #[.int .i64 size, .slice P l.length cap]] w fun e w' => e = .returned (.string (imgB size l)) ∧ Ext w w' := by
  have hle := h.le
  have hpos := h.pos
  have hz := h.sizes
  have hG := h.goodL
  have b1 : IntKind.u8.wrap ((size : Int) / 256) = ((UInt8.ofNat (size / 256)).toNat : Int) := byte_wrap (size / 256)
  have b2 : IntKind.u8.wrap ((size : Int) % 256) = ((UInt8.ofNat size).toNat : Int) := by rw [show ((size : Int) % 256) = ((size % 256 : Nat) : Int) from by omega, byte_wrap, u8n, u8n, Nat.mod_mod]
  have b3 : IntKind.u8.wrap ((l.length : Int) / 256) = ((UInt8.ofNat (l.length / 256)).toNat : Int) := byte_wrap (l.length / 256)
  have b4 : IntKind.u8.wrap ((l.length : Int) % 256) = ((UInt8.ofNat l.length).toNat : Int) := by rw [show ((l.length : Int) % 256) = ((l.length % 256 : Nat) : Int) from by omega, byte_wrap, u8n, u8n, Nat.mod_mod]
  have d1 : (size : Int).tdiv 256 = (size : Int) / 256 := Int.tdiv_eq_ediv_of_nonneg (by omega)
  have d2 : (size : Int).tmod 256 = (size : Int) % 256 := Int.tmod_eq_emod_of_nonneg (by omega)
  have d3 : (l.length : Int).tdiv 256 = (l.length : Int) / 256 := Int.tdiv_eq_ediv_of_nonneg (by omega)
  have d4 : (l.length : Int).tmod 256 = (l.length : Int) % 256 := Int.tmod_eq_emod_of_nonneg (by omega)
  have e1 : IntKind.i64.wrap ((size : Int) / 256) = (size : Int) / 256 := IntWalk.i64_in _ ⟨by omega, by omega⟩
  have e2 : IntKind.i64.wrap ((size : Int) % 256) = (size : Int) % 256 := IntWalk.i64_in _ ⟨by omega, by omega⟩
  have e3 : IntKind.i64.wrap ((l.length : Int) / 256) = (l.length : Int) / 256 := IntWalk.i64_in _ ⟨by omega, by omega⟩
  have e4 : IntKind.i64.wrap ((l.length : Int) % 256) = (l.length : Int) % 256 := IntWalk.i64_in _ ⟨by omega, by omega⟩
  obtain ⟨x1, E1⟩ : ∃ x, UInt8.ofNat (size / 256) = x := ⟨_, rfl⟩
  obtain ⟨x2, E2⟩ : ∃ x, UInt8.ofNat size = x := ⟨_, rfl⟩
  obtain ⟨x3, E3⟩ : ∃ x, UInt8.ofNat (l.length / 256) = x := ⟨_, rfl⟩
  obtain ⟨x4, E4⟩ : ∃ x, UInt8.ofNat l.length = x := ⟨_, rfl⟩
  rw [E1] at b1
  rw [E2] at b2
  rw [E3] at b3
  rw [E4] at b4
  have HB := Lib.hid (show headB size l.length = [65, 82, 69, 65, x1, x2, x3, x4] from by unfold headB; rw [E1, E2, E3, E4])
  clear E1 E2 E3 E4
  have hx0 := (Ext.refl w).alloc (.cells #[.int .i64 size, .slice P l.length cap] 28)
  go_enter Tryz.func30, Tryz.ntmps30
  go_wp2
  have hlit : OwnB ((w.alloc (.cells #[.int .i64 size, .slice P l.length cap] 28)).alloc (.cells #[.int .u8 65, .int .u8 82, .int .u8 69, .int .u8 65, .int .u8 (x1.toNat : Int), .int .u8 (x2.toNat : Int), .int .u8 (x3.toNat : Int), .int .u8 (x4.toNat : Int)] 5)) (w.heap.size + 1) (.slice (some ⟨w.heap.size + 1, 0, none⟩) 8 8) [65, 82, 69, 65, x1, x2, x3, x4] := by
    have := World.ownsRow_lit (size := 1) (w.alloc (.cells #[.int .i64 size, .slice P l.length cap] 28)) (e := 5) #[.int .u8 65, .int .u8 82, .int .u8 69, .int .u8 65, .int .u8 (x1.toNat : Int), .int .u8 (x2.toNat : Int), .int .u8 (x3.toNat : Int), .int .u8 (x4.toNat : Int)] 8 (Nat.le_refl _) (by unfold maxLen; omega) (by simp)
    rw [show (w.alloc (.cells #[.int .i64 size, .slice P l.length cap] 28)).heap.size = w.heap.size + 1 from by simp] at this
    exact this
  have hs1 : (w.alloc (.cells #[.int .i64 size, .slice P l.length cap] 28)).heap.size = w.heap.size + 1 := by simp
  have HH := Lib.hid (show ([65, 82, 69, 65, x1, x2, x3, x4] : List UInt8).length = 8 from rfl)
  generalize hHD : ([65, 82, 69, 65, x1, x2, x3, x4] : List UInt8) = HD at *
  have HX1 := (Ext.refl (w.alloc (.cells #[.int .i64 size, .slice P l.length cap] 28))).alloc (.cells #[.int .u8 65, .int .u8 82, .int .u8 69, .int .u8 65, .int .u8 (x1.toNat : Int), .int .u8 (x2.toNat : Int), .int .u8 (x3.toNat : Int), .int .u8 (x4.toNat : Int)] 5)
  clear hHD b1 b2 b3 b4 d1 d2 d3 d4 e1 e2 e3 e4
  have hLv := fun q hq W hW => refLevel7 P size cap l q W hW hq
  have hpay : ∀ wr, Ext (w.alloc (.cells #[.int .i64 size, .slice P l.length cap] 28)) wr → w.heap.size + 1 ≤ wr.heap.size := fun wr hx => by have := hx.size; omega
  generalize (w.alloc (.cells #[.int .i64 size, .slice P l.length cap] 28)).alloc (.cells #[.int .u8 65, .int .u8 82, .int .u8 69, .int .u8 65, .int .u8 (x1.toNat : Int), .int .u8 (x2.toNat : Int), .int .u8 (x3.toNat : Int), .int .u8 (x4.toNat : Int)] 5) = W2 at *
  go_loopw [4, 5, 6, 7] (fun o i _ _ wr => ∃ k : Nat, k ≤ l.length ∧ i = .int .i64 k ∧ OwnB wr (w.heap.size + 1) o (HD ++ (l.take k).map (lvB size)) ∧ Ext (w.alloc (.cells #[.int .i64 size, .slice P l.length cap] 28)) wr) (fun _ i _ _ _ => l.length - (intOf i).toNat)
  case atStart => exact ⟨0, by omega, rfl, by simpa using hlit, HX1⟩
  case round =>
    obtain ⟨k, hk, rfl, hok, hx⟩ := hrel
    obtain ⟨c0, c1, f0, f1⟩ := ar_box _ _ hx
    have hsz := hpay _ hx
    have hmk : (l.take k).length = k := by rw [List.length_take]; omega
    by_cases hlt : k < l.length
    · have hLk := hLv k hlt wr (h.ext (hx0.trans hx)).rar
      obtain ⟨hv, hzk⟩ := hG.good k hlt
      have hll := levP_le hv
      rw [hzk] at hll
      have c2 : (k : Int) < l.length := by omega
      have bl : IntKind.u8.wrap (levP size (nthB l k) : Int) = ((lvB size (nthB l k)).toNat : Int) := byte_wrap _
      have HS := Lib.hid (show (l.take (k + 1)).map (lvB size) = (l.take k).map (lvB size) ++ [lvB size (nthB l k)] from by
        rw [List.take_add_one, nthB_some hlt, List.map_append]
        rfl)
      have HLL := Lib.hid (show (HD ++ (l.take k).map (lvB size)).length ≤ 1000 from by rw [List.length_append, List.length_map, HH.out, hmk]; omega)
      clear hmk
      generalize (l.take k).map (lvB size) = M at *
      generalize lvB size (nthB l k) = y at *
      generalize levP size (nthB l k) = lv at *
      go_wp2_with (first
        | (go_at_call 28; refine hLk.mono ?_; rintro e w5 ⟨rfl, hx5⟩; have hone := SlG.one (w := w5) (cs := csB) elemB.hk y (t0 := 5) (C := #[.int .u8 (y.toNat : Int)]) rfl rfl; have hsz5 := hx5.size)
        | (at_builtin; refine wpList_app_G _ elemB rfl _ _ rfl (base := w.heap.size + 1) rfl ((hok.ext hx5).ext ((Ext.refl _).alloc _)) (m := [y]) rfl hone (fun e => by cases e) (by have := HLL.out; simp only [List.length_cons, List.length_nil]; omega) (by have := HLL.out; simp only [List.length_cons, List.length_nil]; omega) (by simp; omega) ?_; intro v7 w7 ho7 hb7))
      refine ⟨⟨k + 1, by omega, by go_num, by rw [HS.out, ← List.append_assoc]; exact ho7, below_ext ((hx.trans hx5).alloc _) hb7 (Nat.le_of_eq hs1)⟩, by simp [intOf]; omega⟩
    · obtain rfl : k = l.length := by omega
      rw [List.take_length] at hok hmk
      have HL8 := Lib.hid (show (HD ++ l.map (lvB size)).length = 8 + l.length from by rw [List.length_append, List.length_map, HH.out])
      have HI2 := Lib.hid (show imgL size l = (HD ++ l.map (lvB size)) ++ pgsL l from by unfold imgL; rw [HB.out, List.append_assoc])
      clear hmk
      generalize HD ++ l.map (lvB size) = H0 at *
      go_wp2
      go_loopw [4, 8] (fun o i wr => ∃ k : Nat, k ≤ l.length ∧ i = .int .i64 k ∧ OwnB wr (w.heap.size + 1) o (H0 ++ pgsL (l.take k)) ∧ Ext (w.alloc (.cells #[.int .i64 size, .slice P l.length cap] 28)) wr) (fun _ i _ => l.length - (intOf i).toNat)
      case atStart => exact ⟨0, by omega, rfl, by simpa [pgsL] using hok, hx⟩
      case round =>
        obtain ⟨k, hk, rfl, hok, hx⟩ := hrel
        obtain ⟨c0, c1, f0, f1⟩ := ar_box _ _ hx
        have hsz := hpay _ hx
        have hpl : (pgsL (l.take k)).length = k * size := by
          rw [pgsL_len (size := size) _ (fun p hp => hG.sizes p (List.mem_of_mem_take hp)), List.length_take, Nat.min_eq_left hk]
        have hmul : k * size ≤ 200 * 4096 := Nat.mul_le_mul (by omega) hz.2
        by_cases hlt : k < l.length
        · obtain ⟨b, off, rfl, hcell⟩ := h.cell k hlt
          have hcr := (hx0.trans hx).cell hcell
          have c2 : (k : Int) < l.length := by omega
          have hzp := (hG.good k hlt).2
          have HS := Lib.hid (show pgsL (l.take (k + 1)) = pgsL (l.take k) ++ (nthB l k).data.toList from by
            unfold pgsL
            rw [List.take_add_one, nthB_some hlt, List.flatMap_append]
            simp)
          have HLL := Lib.hid (show (H0 ++ pgsL (l.take k)).length + (nthB l k).size ≤ 140737488355328 from by rw [List.length_append, HL8.out, hpl, hzp]; omega)
          clear hcell hpl hmul
          generalize nthB l k = pk at *
          generalize pgsL (l.take k) = PK at *
          go_wp2_with (at_builtin; refine wpList_app_text rfl _ _ rfl rfl hok rfl HLL.out hsz ?_; intro v7 w7 ho7 hb7)
          refine ⟨⟨k + 1, by omega, by go_num, by rw [HS.out, ← List.append_assoc]; exact ho7, below_ext hx hb7 (Nat.le_of_eq hs1)⟩, by simp [intOf]; omega⟩
        · obtain rfl : k = l.length := by omega
          rw [List.take_length] at hok hpl
          obtain ⟨gf, cf, rfl, _, _, _, _⟩ := hok.tight (by rw [List.length_append, HL8.out]; omega)
          have hF := hok.slG elemB (by rw [List.length_append, HL8.out, hpl]; omega)
          obtain ⟨PF, cF, eF, hSF⟩ := hF
          simp only [Value.slice.injEq] at eF
          obtain ⟨rfl, _, rfl⟩ := eF
          have hcvF := run_convert_bytes_back (P := Tryz.prog) wr 62 9 5 ⟨gf, 0, none⟩ cf (H0 ++ pgsL l) Tryz.underlying62 Tryz.underlying5 Tryz.underlying9 (fun j hj => by
            obtain ⟨b', o', e', hc⟩ := hSF.at_ j _ (List.getElem?_eq_getElem hj)
            simp only [Option.some.injEq, Addr.mk.injEq, and_true] at e'
            obtain ⟨rfl, rfl⟩ := e'
            have := hc 0 _ rfl
            rw [add_flat, Nat.zero_add]
            simpa using this)
          have HE := Lib.hid (show (⟨(H0 ++ pgsL l).toArray⟩ : ByteArray) = imgB size l from by unfold imgB; rw [HI2.out])
          clear hok hSF hpl
          generalize H0 ++ pgsL l = FF at *
          go_wp2
          go_ret
          exact ⟨by rw [HE.out]; rfl, hx0.trans hx⟩
end
end Go.Proofs.YtnileonlabpbpaaGreat
