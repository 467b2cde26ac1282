/- ArrayTexts: how long the texts are; the parts of a text. -/
import Derived.Test.YtgdbhmdhonnmgaaDoorArYA
namespace Go.Proofs.YtgdbhmdhonnmgaaDoor
open Go
set_option linter.unusedVariables false
set_option linter.unusedSimpArgs false

def mkT (l : List UInt8) : ByteArray := ⟨l.toArray⟩
/-- the text up to block i -/
def preA (b : Int) (LL : List (List Int)) (i : Nat) : List UInt8 := 98 :: 32 :: (Lib.itoa b ++ 10 :: linesA (LL.take i))
theorem fmtA_yes {b : Int} {LL : List (List Int)} (h : ArOk b LL) : fmtA b LL = preA b LL LL.length := by
  unfold fmtA preA
  rw [if_pos (validF_iff.2 h), List.take_length]
theorem preA_zero (b : Int) (LL : List (List Int)) : preA b LL 0 = 98 :: 32 :: (Lib.itoa b ++ [10]) := rfl
theorem preA_succ (b : Int) (LL : List (List Int)) (i : Nat) (h : i < LL.length) : preA b LL (i + 1) = preA b LL i ++ (Lib.join ((nthA LL i).map Lib.itoa) [32] ++ [10]) := by
  have e : LL.take (i + 1) = LL.take i ++ [nthA LL i] := by
    rw [List.take_add_one, nthA, List.getD_eq_getElem?_getD, List.getElem?_eq_getElem h]
    rfl
  unfold preA linesA
  rw [e, List.map_append, List.flatten_append]
  simp [lineA]
theorem join_snoc : ∀ (ws : List (List UInt8)) (x : List UInt8), ws ≠ [] → Lib.join (ws ++ [x]) [32] = Lib.join ws [32] ++ 32 :: x
  | [], x, h => absurd rfl h
  | [a], x, _ => by simp [Lib.join, List.intercalate, List.intersperse]
  | a :: b :: l, x, _ => by
    have ih := join_snoc (b :: l) x (by simp)
    have e1 : Lib.join (a :: b :: l ++ [x]) [32] = a ++ 32 :: Lib.join (b :: l ++ [x]) [32] := by simp [Lib.join, List.intercalate, List.intersperse]
    have e2 : Lib.join (a :: b :: l) [32] = a ++ 32 :: Lib.join (b :: l) [32] := by simp [Lib.join, List.intercalate, List.intersperse]
    rw [e1, e2, ih]
    simp
theorem join_nil : Lib.join [] [32] = [] := by simp [Lib.join, List.intercalate]
theorem join_one (x : List UInt8) : Lib.join [x] [32] = x := by simp [Lib.join, List.intercalate]
theorem joinT_le (n : Nat) : ∀ (ws : List (List UInt8)), (∀ x ∈ ws, x.length ≤ n) → (Lib.join ws [32]).length ≤ ws.length * (n + 1)
  | [], _ => by simp [Lib.join, List.intercalate]
  | [a], h => by
    have := h a (by simp)
    rw [join_one]; simp; omega
  | a :: b :: l, h => by
    have ih := joinT_le n (b :: l) (fun x hx => h x (by simp [List.mem_cons.1 hx]))
    have e2 : Lib.join (a :: b :: l) [32] = a ++ 32 :: Lib.join (b :: l) [32] := by simp [Lib.join, List.intercalate, List.intersperse]
    have ha := h a (by simp)
    rw [e2, List.length_append, List.length_cons, List.length_cons, Nat.add_mul]
    omega
theorem itoa_key_len {x : Int} (h : keyB x = true) : (Lib.itoa x).length ≤ 7 := by
  have hx := keyB_t h
  have e : Lib.itoa x = Lib.decDigits x.toNat := by unfold Lib.itoa; rw [if_neg (by omega)]
  rw [e]
  exact dec_len _ 6 (by omega)
theorem row_len {l : List Int} (h : ∀ x ∈ l, keyB x = true) : (Lib.join (l.map Lib.itoa) [32]).length ≤ l.length * 8 := by
  have := joinT_le 7 (l.map Lib.itoa) (fun x hx => by
    obtain ⟨y, hy, rfl⟩ := List.mem_map.1 hx
    exact itoa_key_len (h y hy))
  rw [List.length_map] at this
  exact this
theorem linesA_len : ∀ (LL : List (List Int)), (∀ l ∈ LL, ∀ x ∈ l, keyB x = true) → (linesA LL).length ≤ LL.flatten.length * 8 + LL.length
  | [], _ => by simp [linesA]
  | l :: LL, h => by
    have ih := linesA_len LL (fun x hx => h x (by simp [hx]))
    have h1 := row_len (h l (by simp))
    have e : linesA (l :: LL) = lineA l ++ linesA LL := rfl
    rw [e, List.length_append, List.flatten_cons, List.length_append, List.length_cons, Nat.add_mul]
    unfold lineA
    rw [List.length_append]
    simp only [List.length_cons, List.length_nil]
    omega
theorem blocks_le : ∀ (LL : List (List Int)), (∀ l ∈ LL, l ≠ []) → LL.length ≤ LL.flatten.length
  | [], _ => by simp
  | l :: LL, h => by
    have ih := blocks_le LL (fun x hx => h x (by simp [hx]))
    have h1 : 1 ≤ l.length := by
      cases l with
      | nil => exact absurd rfl (h [] (by simp))
      | cons a l => simp
    rw [List.flatten_cons, List.length_append, List.length_cons]
    omega
theorem take_flat_le (LL : List (List Int)) (i : Nat) : (LL.take i).flatten.length ≤ LL.flatten.length := by
  conv => rhs; rw [← List.take_append_drop i LL, List.flatten_append, List.length_append]
  omega
theorem preA_len {b : Int} {LL : List (List Int)} (h : ArOk b LL) (i : Nat) : (preA b LL i).length ≤ 5000 := by
  have hb := roomB_t h.room
  have h1 := linesA_len (LL.take i) (fun l hl => keys_of h.keys (List.mem_of_mem_take hl))
  have h2 := blocks_le LL (fun l hl => (h.blocks l hl).1)
  have h3 := take_flat_le LL i
  have h4 := h.keys.2.2
  have h5 : (Lib.itoa b).length ≤ 2 := by
    have e : Lib.itoa b = Lib.decDigits b.toNat := by unfold Lib.itoa; rw [if_neg (by omega)]
    rw [e]
    exact dec_len _ 1 (by omega)
  have h6 : (LL.take i).length ≤ LL.length := by rw [List.length_take]; omega
  unfold preA
  simp only [List.length_cons, List.length_append]
  omega
theorem fmtA_len {b : Int} {LL : List (List Int)} (h : ArOk b LL) : (fmtA b LL).length ≤ 5000 := by rw [fmtA_yes h]; exact preA_len h _
theorem fmtA_ne {b : Int} {LL : List (List Int)} (h : ArOk b LL) : fmtA b LL ≠ [] := by rw [fmtA_yes h]; simp [preA]
end Go.Proofs.YtgdbhmdhonnmgaaDoor
