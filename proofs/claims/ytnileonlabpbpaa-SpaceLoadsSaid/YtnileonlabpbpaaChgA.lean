/- The operations that change a page: program and reference alike; no other line changes. -/
import Derived.Test.YtnileonlabpbpaaRefP
namespace Go.Proofs.Ytnileonlabpbpaa
open Go.RowKit
set_option linter.unusedVariables false
set_option maxRecDepth 20000

/-- what Get tells of a line among cells -/
def GetR (f : Nat → Cel) (n : Nat) (i : Int) (r : ByteArray × Int) : Prop :=
  (∃ k, k < n ∧ (f k).1 = i ∧ r = ((f k).2, 0)) ∨ ((∀ k, k < n → (f k).1 ≠ i) ∧ r = (⟨#[]⟩, 8))
theorem getR_some (f : Nat → Cel) (n : Nat) (i : Int) : ∃ r, GetR f n i r := by
  by_cases h : ∃ k, k < n ∧ (f k).1 = i
  · obtain ⟨k, h1, h2⟩ := h
    exact ⟨_, .inl ⟨k, h1, h2, rfl⟩⟩
  · exact ⟨_, .inr ⟨fun k h1 h2 => h ⟨k, h1, h2⟩, rfl⟩⟩
theorem getR_congr {f g : Nat → Cel} {n : Nat} {i : Int} {r : ByteArray × Int} (h : GetR f n i r) (e : ∀ k, k < n → f k = g k) : GetR g n i r := by
  rcases h with ⟨k, h1, h2, h3⟩ | ⟨h1, h2⟩
  · exact .inl ⟨k, h1, by rw [← e k h1]; exact h2, by rw [← e k h1]; exact h3⟩
  · exact .inr ⟨fun k hk => by rw [← e k hk]; exact h1 k hk, h2⟩
theorem getR_ins {f : Nat → Cel} {n pos : Nat} {x : Int} {s : ByteArray} {i : Int} {r : ByteArray × Int} (h : GetR f n i r) (hne : i ≠ x) (hp : pos ≤ n) : GetR (insF f pos (x, s)) (n + 1) i r := by
  rcases h with ⟨k, h1, h2, h3⟩ | ⟨h1, h2⟩
  · by_cases hk : k < pos
    · exact .inl ⟨k, by omega, by unfold insF; rw [if_pos hk]; exact h2, by unfold insF; rw [if_pos hk]; exact h3⟩
    · exact .inl ⟨k + 1, by omega, by unfold insF; rw [if_neg (by omega), if_neg (by omega)]; exact h2, by unfold insF; rw [if_neg (by omega), if_neg (by omega)]; exact h3⟩
  · refine .inr ⟨fun k hk => ?_, h2⟩
    unfold insF
    split
    · exact h1 k (by omega)
    · split
      · exact fun e => hne e.symm
      · exact h1 (k - 1) (by omega)
theorem getR_set {f : Nat → Cel} {n pos : Nat} {x : Int} {s : ByteArray} {i : Int} {r : ByteArray × Int} (h : GetR f n i r) (hne : i ≠ x) (hx : (f pos).1 = x) : GetR (setF f pos s) n i r := by
  rcases h with ⟨k, h1, h2, h3⟩ | ⟨h1, h2⟩
  · have hk : ¬ k = pos := fun e => hne (by rw [← h2, e, hx])
    exact .inl ⟨k, h1, by unfold setF; rw [if_neg hk]; exact h2, by unfold setF; rw [if_neg hk]; exact h3⟩
  · refine .inr ⟨fun k hk => ?_, h2⟩
    unfold setF
    split
    · rw [hx]; exact fun e => hne e.symm
    · exact h1 k hk
theorem getR_del {f : Nat → Cel} {n pos : Nat} {x : Int} {i : Int} {r : ByteArray × Int} (h : GetR f n i r) (hne : i ≠ x) (hp : pos < n) (hx : (f pos).1 = x) : GetR (delF f pos) (n - 1) i r := by
  rcases h with ⟨k, h1, h2, h3⟩ | ⟨h1, h2⟩
  · have hk : ¬ k = pos := fun e => hne (by rw [← h2, e, hx])
    by_cases hk2 : k < pos
    · exact .inl ⟨k, by omega, by unfold delF; rw [if_pos hk2]; exact h2, by unfold delF; rw [if_pos hk2]; exact h3⟩
    · obtain ⟨d, rfl⟩ : ∃ d, k = d + 1 := ⟨k - 1, by omega⟩
      exact .inl ⟨d, by omega, by unfold delF; rw [if_neg (by omega)]; exact h2, by unfold delF; rw [if_neg (by omega)]; exact h3⟩
  · refine .inr ⟨fun k hk => ?_, h2⟩
    unfold delF
    split
    · exact h1 k (by omega)
    · exact h1 (k + 1) (by omega)

theorem get_rel (p : ByteArray) (x : Int) (r : ByteArray × Int) (w : World) (hv : ValidR p) (hx : 1 ≤ x ∧ x ≤ 200) (hr : GetR (cel p) (cnt p) x r) :
    Calls Try.prog 31 #[.string p, .int .i64 x] w fun e w' => e = two2 r ∧ Ext w w' := by
  have hG := cel_good hv
  obtain ⟨pos, hp⟩ := pos_of hG x
  rcases hr with ⟨k, h1, h2, rfl⟩ | ⟨h1, rfl⟩
  · have hk : k = pos := by
      rcases Nat.lt_trichotomy k pos with h | h | h
      · have := hp.below k h; omega
      · exact h
      · have := hp.above pos (Nat.le_refl _) (by omega)
        have := line_lt hG pos k h h1
        omega
    subst hk
    exact get_hit p x w hv hx k hp ⟨h1, h2⟩
  · exact get_miss p x w hv hx pos hp (fun h => h1 pos h.1 h.2)


end Go.Proofs.Ytnileonlabpbpaa
