/- Arrays, the plain part: a key put at an index, taken at an index; the array of keys. -/
import Derived.Test.YtgdbhmdhonnmgaaDoorArO
namespace Go.Proofs.YtgdbhmdhonnmgaaDoor
set_option linter.unusedVariables false
set_option maxRecDepth 20000
set_option linter.unusedSimpArgs false

/-- where a key that is put at an index goes -/
def spotF (LL : List (List Int)) (index : Nat) : Nat × Nat :=
  if index < LL.flatten.length then locQ LL index else (LL.length - 1, (nthA LL (LL.length - 1)).length)
theorem spotF_in {LL : List (List Int)} {index : Nat} (h : index < LL.flatten.length) : spotF LL index = locQ LL index := if_pos h
theorem spotF_end (LL : List (List Int)) : spotF LL LL.flatten.length = (LL.length - 1, (nthA LL (LL.length - 1)).length) := if_neg (Nat.lt_irrefl _)
theorem spotF_spot {LL : List (List Int)} {index : Nat} (hne : LL ≠ []) (h : index ≤ LL.flatten.length) : Spot LL index (spotF LL index).1 (spotF LL index).2 := by
  by_cases hi : index < LL.flatten.length
  · rw [spotF_in hi]
    obtain ⟨h1, h2, h3⟩ := locQ_lt LL index hi
    exact ⟨h1, h3, .inl h2⟩
  · obtain rfl : index = LL.flatten.length := by omega
    rw [spotF_end]
    exact spot_end hne
theorem spotF_of {LL : List (List Int)} {index q p : Nat} (h : Spot LL index q p) (hi : index ≤ LL.flatten.length) (hok : ∀ l ∈ LL, l ≠ []) : spotF LL index = (q, p) := by
  by_cases hi' : index < LL.flatten.length
  · rw [spotF_in hi', spot_in h hi']
  · obtain rfl : index = LL.flatten.length := by omega
    obtain ⟨h1, h2⟩ := spot_last h hok
    rw [spotF_end, h1, h2]
/-- a key put at an index -/
def insF (b : Int) (LL : List (List Int)) (index : Nat) (k : Int) : List (List Int) :=
  if LL = [] then [[k]] else putAt b LL (spotF LL index).1 (spotF LL index).2 k
theorem insF_nil (b : Int) (index : Nat) (k : Int) : insF b [] index k = [[k]] := rfl
theorem insF_ne {b : Int} {LL : List (List Int)} {index : Nat} {k : Int} (h : LL ≠ []) : insF b LL index k = putAt b LL (spotF LL index).1 (spotF LL index).2 k := if_neg h
theorem insF_flat {b : Int} {LL : List (List Int)} {index : Nat} {k : Int} (h : index ≤ LL.flatten.length) : (insF b LL index k).flatten = insI LL.flatten index k := by
  by_cases hn : LL = []
  · subst hn
    simp at h
    subst h
    rfl
  · rw [insF_ne hn, putAt_flat (spotF_spot hn h)]
    rfl
theorem insF_ok {b : Int} {LL : List (List Int)} {index : Nat} {k : Int} (h : index ≤ LL.flatten.length) (hb : roomB b = true) (hL : BlocksOk b LL) : BlocksOk b (insF b LL index k) := by
  by_cases hn : LL = []
  · subst hn
    have := roomB_t hb
    intro l hl
    rw [insF_nil] at hl
    simp at hl
    subst hl
    exact ⟨by simp, by simp; omega⟩
  · rw [insF_ne hn]
    exact putAt_ok (spotF_spot hn h) hb hL
theorem insF_half {b : Int} {LL : List (List Int)} {index : Nat} {k : Int} (h : index ≤ LL.flatten.length) (hb : roomB b = true) (hL : BlocksOk b LL) (H : HalfC (b / 2) LL) : HalfC (b / 2) (insF b LL index k) := by
  by_cases hn : LL = []
  · subst hn
    trivial
  · rw [insF_ne hn]
    exact half_put (spotF_spot hn h) hb hL H
theorem insF_apart (b : Int) (LL : List (List Int)) (index : Nat) (k : Int) : apartN (insF b LL index k) LL ≤ 2 := by
  by_cases hn : LL = []
  · subst hn
    have := apartN_le [[k]] []
    rw [insF_nil]
    simp at this
    omega
  · rw [insF_ne hn]
    exact apart_put _ _ _ _ _
theorem insF_ne_nil {b : Int} {LL : List (List Int)} {index : Nat} {k : Int} (h : index ≤ LL.flatten.length) : insF b LL index k ≠ [] := fun e => by
  have h1 := congrArg (fun l => l.flatten.length) e
  simp only [insF_flat h] at h1
  rw [insI_length h] at h1
  simp at h1
/-- the key at an index taken out -/
def remF (b : Int) (LL : List (List Int)) (index : Nat) : List (List Int) := takeAt b LL (locQ LL index).1 (locQ LL index).2
theorem remF_flat {b : Int} {LL : List (List Int)} {index : Nat} (h : index < LL.flatten.length) : (remF b LL index).flatten = LL.flatten.eraseIdx index := by
  obtain ⟨h1, h2, h3⟩ := locQ_lt LL index h
  unfold remF
  rw [takeAt_flat h1 h2, h3]
theorem remF_ok {b : Int} {LL : List (List Int)} {index : Nat} (h : index < LL.flatten.length) (hL : BlocksOk b LL) : BlocksOk b (remF b LL index) :=
  takeAt_ok (locQ_lt LL index h).1 hL
theorem remF_half {b : Int} {LL : List (List Int)} {index : Nat} (h : index < LL.flatten.length) (hb : roomB b = true) (hL : BlocksOk b LL) (H : HalfC (b / 2) LL) : HalfC (b / 2) (remF b LL index) := by
  obtain ⟨h1, h2, h3⟩ := locQ_lt LL index h
  exact half_take h1 h2 hb hL H
theorem remF_apart (b : Int) (LL : List (List Int)) (index : Nat) : apartN (remF b LL index) LL ≤ 2 := apart_take _ _ _ _
theorem nthI_locQ {LL : List (List Int)} {index : Nat} (h : index < LL.flatten.length) : nthI (nthA LL (locQ LL index).1) (locQ LL index).2 = nthI LL.flatten index := by
  obtain ⟨h1, h2, h3⟩ := locQ_lt LL index h
  rw [← nthI_flat LL _ _ h1 h2, h3]

theorem KeysOk.ins {l : List Int} {i : Nat} {k : Int} (h : KeysOk l) (hk : keyB k = true) (hn : k ∉ l) (hl : l.length < 500) (hi : i ≤ l.length) : KeysOk (insI l i k) := by
  have hp : (insI l i k).Perm (k :: l) := by
    unfold insI
    exact List.perm_middle.trans (by rw [List.take_append_drop])
  refine ⟨fun x hx => ?_, hp.nodup_iff.2 (List.nodup_cons.2 ⟨hn, h.2.1⟩), ?_⟩
  · rcases List.mem_cons.1 (hp.mem_iff.1 hx) with rfl | hx
    · exact hk
    · exact h.1 x hx
  · rw [insI_length hi]; omega
theorem KeysOk.erase {l : List Int} {i : Nat} (h : KeysOk l) : KeysOk (l.eraseIdx i) :=
  ⟨fun x hx => h.1 x (List.mem_of_mem_eraseIdx hx), h.2.1.sublist (List.eraseIdx_sublist _ _), by have := List.length_eraseIdx_le l i; have := h.2.2; omega⟩
theorem ArOk.ins {b : Int} {LL : List (List Int)} {i : Nat} {k : Int} (h : ArOk b LL) (hk : keyB k = true) (hn : k ∉ LL.flatten) (hl : LL.flatten.length < 500) (hi : i ≤ LL.flatten.length) : ArOk b (insF b LL i k) :=
  ⟨h.room, insF_ok hi h.room h.blocks, by rw [insF_flat hi]; exact h.keys.ins hk hn hl hi⟩
theorem ArOk.rem {b : Int} {LL : List (List Int)} {i : Nat} (h : ArOk b LL) (hi : i < LL.flatten.length) : ArOk b (remF b LL i) :=
  ⟨h.room, remF_ok hi h.blocks, by rw [remF_flat hi]; exact h.keys.erase⟩

/-- the array of the first n keys -/
def makeF (b : Int) (keys : List Int) : Nat → List (List Int)
  | 0 => []
  | n + 1 => insF b (makeF b keys n) n (nthI keys n)
theorem makeF_flat (b : Int) (keys : List Int) : ∀ n, n ≤ keys.length → (makeF b keys n).flatten = keys.take n
  | 0, _ => by simp [makeF]
  | n + 1, h => by
    have ih := makeF_flat b keys n (by omega)
    have hl : (makeF b keys n).flatten.length = n := by rw [ih, List.length_take]; omega
    unfold makeF
    rw [insF_flat (by omega), ih, nthI_take (by omega)]
    have e : (keys.take n).length = n := by rw [List.length_take]; omega
    unfold insI
    rw [List.take_of_length_le (by omega), List.drop_eq_nil_of_le (by omega)]
theorem makeF_len (b : Int) (keys : List Int) (n : Nat) (h : n ≤ keys.length) : (makeF b keys n).flatten.length = n := by
  rw [makeF_flat b keys n h, List.length_take]; omega
theorem makeF_ok (b : Int) (keys : List Int) (hb : roomB b = true) : ∀ n, n ≤ keys.length → BlocksOk b (makeF b keys n)
  | 0, _ => fun l hl => by simp [makeF] at hl
  | n + 1, h => by
    have ih := makeF_ok b keys hb n (by omega)
    have hl := makeF_len b keys n (by omega)
    unfold makeF
    exact insF_ok (by omega) hb ih
theorem makeF_half (b : Int) (keys : List Int) (hb : roomB b = true) : ∀ n, n ≤ keys.length → HalfC (b / 2) (makeF b keys n)
  | 0, _ => trivial
  | n + 1, h => by
    have ih := makeF_half b keys hb n (by omega)
    have hl := makeF_len b keys n (by omega)
    unfold makeF
    exact insF_half (by omega) hb (makeF_ok b keys hb n (by omega)) ih
theorem makeF_all (b : Int) (keys : List Int) (hb : roomB b = true) (hk : KeysOk keys) : ArOk b (makeF b keys keys.length) :=
  ⟨hb, makeF_ok b keys hb _ (Nat.le_refl _), by rw [makeF_flat b keys _ (Nat.le_refl _), List.take_length]; exact hk⟩
end Go.Proofs.YtgdbhmdhonnmgaaDoor
