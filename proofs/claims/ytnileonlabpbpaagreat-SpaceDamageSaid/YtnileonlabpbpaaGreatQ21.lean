/- SpAM; SpAN (merged by group.py) -/
import Derived.Test.YtnileonlabpbpaaGreatQ20
namespace Go.Proofs.YtnileonlabpbpaaGreat
section
open Go.RowKit
set_option linter.unusedVariables false
set_option linter.unusedSimpArgs false
set_option linter.unusedSectionVars false
set_option maxRecDepth 20000

theorem NextA.same {A g size cap : Nat} {l : List ByteArray} {lv : List UInt8} {W w' : World} (h : Sp W A g size l lv cap) (hx : Ext W w') : NextA A g W w' size l := ⟨g, lv, cap, h.ext hx, .inl rfl⟩
theorem NextA.of {A g size cap : Nat} {l : List ByteArray} {W w' : World} (h : ∃ lv', Sp w' A g size l lv' cap) : NextA A g W w' size l := by
  obtain ⟨lv', h⟩ := h
  exact ⟨g, lv', cap, h, .inl rfl⟩
/-- all places but one tell what they told -/
def Apart (l l' : List ByteArray) (x y : Int) : Prop := l'.length = l.length ∧ ∀ (q : Nat) (i : Int) (r : ByteArray × Int), q < l.length → ¬ ((q : Int) = x ∧ i = y) → GetR (cel (nthB l q)) (cnt (nthB l q)) i r → GetR (cel (nthB l' q)) (cnt (nthB l' q)) i r
theorem Apart.refl (l : List ByteArray) (x y : Int) : Apart l l x y := ⟨rfl, fun _ _ _ _ _ h => h⟩
theorem Apart.trans {a b c : List ByteArray} {x y : Int} (h : Apart a b x y) (k : Apart b c x y) : Apart a c x y := ⟨k.1.trans h.1, fun q i r hq hne hr => k.2 q i r (by rw [h.1]; exact hq) hne (h.2 q i r hq hne hr)⟩
theorem Apart.ofAft {l : List ByteArray} {q : Nat} {y : Int} {r : ByteArray × Int} (hq : q < l.length) (h : PgOk (nthB l q) y r) : Apart l (aft l q r) q y := by
  refine ⟨aft_len l q r, fun p i s hp hne hs => ?_⟩
  unfold aft
  split
  · rename_i h0
    rw [nthB_set l q p r.1 hq]
    split
    · rename_i e
      subst e
      exact (h h0).2.2 i s (fun e => hne ⟨rfl, e⟩) hs
    · exact hs
  · exact hs
/-- an act of both -/
structure BothK (fp fr : FuncId) (args : Array Value) (size : Nat) (l : List ByteArray) (r : Int) (l' : List ByteArray) : Prop where
  prog : ∀ A g lv cap W, Sp W A g size l lv cap → Calls Tryz.prog fp (#[.pointer (some ⟨A, 0, none⟩)] ++ args) W fun e w' => e = .returned (.int .i64 r) ∧ NextA A g W w' size l' ∧ Chg A g W w'
  ref : ∀ P cap W, RS W P cap size l → Calls Tryz.prog fr (#[.agg #[.int .i64 size, .slice P l.length cap]] ++ args) W fun e w' => (∃ v, e = .returned (.tuple #[v, .int .i64 r]) ∧ NextR W P w' v size l') ∧ Ext W w'
theorem goodAft {size : Nat} {l : List ByteArray} (h : GoodL size l) {q : Nat} (hq : q < l.length) {y : Int} {r : ByteArray × Int} (hp : PgOk (nthB l q) y r) : r.2 = 0 → ValidR r.1 ∧ r.1.size = size := fun h0 => by
  obtain ⟨h1, h2, _⟩ := hp h0
  exact ⟨h1, by rw [h2, (h.good q hq).2]⟩
section
variable (size : Nat) (l : List ByteArray) (x y : Int) (s : ByteArray) (hg : GoodL size l) (hx : -9223372036854775808 ≤ x ∧ x ≤ 9223372036854775807) (hy : -9223372036854775808 ≤ y ∧ y ≤ 9223372036854775807) (hs2 : s.size ≤ 140737488355328)
include hg hx hy hs2
theorem both_putAt : ∃ r l', BothK 13 38 #[.agg #[.int .i64 x, .int .i64 y], .string s] size l r l' ∧ Apart l l' x y := by
  by_cases hs : s.toList = []
  · exact ⟨1, l, ⟨fun A g lv cap W hW => (sputAt_empty A x y s W hs).mono (fun e w' ⟨he, hx⟩ => ⟨he, NextA.same hW hx, Chg.of_ext hx⟩), fun P cap W hW => refPutAt7_empty P size cap l x y s hW hs⟩, Apart.refl _ _ _⟩
  by_cases hq : 0 ≤ x ∧ x < l.length
  · obtain ⟨q, rfl⟩ : ∃ q : Nat, x = q := ⟨x.toNat, by omega⟩
    have hq' : q < l.length := by omega
    obtain ⟨r, hb, hp⟩ := putAt_pg (nthB l q) y s (hg.good q hq').1 hy.1 hy.2 hs2
    by_cases hl : 1 ≤ y ∧ y ≤ 200
    · exact ⟨r.2, aft l q r, ⟨fun A g lv cap W hW => (sputAt_in A g size cap l lv q y s W hW hs q hq' rfl r hb.1 (goodAft hg hq' hp)).mono (fun e w' ⟨he, h1, h2⟩ => ⟨he, NextA.of h1, h2⟩),
        fun P cap W hW => refPutAt7_at P size cap q l y s r hW hq' hl hs (goodAft hg hq' hp) hb.2⟩, Apart.ofAft hq' hp⟩
    · have hll : lineB y = false := by simp [lineB]; omega
      exact ⟨7, l, ⟨fun A g lv cap W hW => (sputAt_in A g size cap l lv q y s W hW hs q hq' rfl (⟨#[]⟩, 7) (fun w => putAt_line (nthB l q) y s w (hg.good q hq').1 hy.1 hy.2 hll hs) (fun e => by cases e)).mono (fun e w' ⟨he, h1, h2⟩ => ⟨he, NextA.of h1, h2⟩),
        fun P cap W hW => by
          have := refPutAt7_no P size cap l q y s hW hs (by unfold plF; rw [if_pos hq, if_neg hl]; decide)
          rw [show plF l (q : Int) y = 7 from by unfold plF; rw [if_pos hq, if_neg hl]] at this
          exact this⟩, Apart.refl _ _ _⟩
  · exact ⟨7, l, ⟨fun A g lv cap W hW => (sputAt_no A g size cap l lv x y s W hW hs hq).mono (fun e w' ⟨he, hx⟩ => ⟨he, NextA.same hW hx, Chg.of_ext hx⟩),
      fun P cap W hW => by
        have := refPutAt7_no P size cap l x y s hW hs (by unfold plF; rw [if_neg hq]; decide)
        rw [show plF l x y = 7 from by unfold plF; rw [if_neg hq]] at this
        exact this⟩, Apart.refl _ _ _⟩
theorem both_set : ∃ r l', BothK 12 39 #[.agg #[.int .i64 x, .int .i64 y], .string s] size l r l' ∧ Apart l l' x y := by
  by_cases hs : s.toList = []
  · exact ⟨1, l, ⟨fun A g lv cap W hW => (sset_empty A x y s W hs).mono (fun e w' ⟨he, hx⟩ => ⟨he, NextA.same hW hx, Chg.of_ext hx⟩), fun P cap W hW => refSet7_empty P size cap l x y s hW hs⟩, Apart.refl _ _ _⟩
  by_cases hq : 0 ≤ x ∧ x < l.length
  · obtain ⟨q, rfl⟩ : ∃ q : Nat, x = q := ⟨x.toNat, by omega⟩
    have hq' : q < l.length := by omega
    obtain ⟨r, hb, hp⟩ := set_pg (nthB l q) y s (hg.good q hq').1 hy.1 hy.2 hs2
    by_cases hl : 1 ≤ y ∧ y ≤ 200
    · exact ⟨r.2, aft l q r, ⟨fun A g lv cap W hW => (sset_in A g size cap l lv q y s W hW hs q hq' rfl r hb.1 (goodAft hg hq' hp)).mono (fun e w' ⟨he, h1, h2⟩ => ⟨he, NextA.of h1, h2⟩),
        fun P cap W hW => refSet7_at P size cap q l y s r hW hq' hl hs (goodAft hg hq' hp) hb.2⟩, Apart.ofAft hq' hp⟩
    · have hll : lineB y = false := by simp [lineB]; omega
      exact ⟨7, l, ⟨fun A g lv cap W hW => (sset_in A g size cap l lv q y s W hW hs q hq' rfl (⟨#[]⟩, 7) (fun w => set_line (nthB l q) y s w (hg.good q hq').1 hy.1 hy.2 hll hs) (fun e => by cases e)).mono (fun e w' ⟨he, h1, h2⟩ => ⟨he, NextA.of h1, h2⟩),
        fun P cap W hW => by
          have := refSet7_no P size cap l q y s hW hs (by unfold plF; rw [if_pos hq, if_neg hl]; decide)
          rw [show plF l (q : Int) y = 7 from by unfold plF; rw [if_pos hq, if_neg hl]] at this
          exact this⟩, Apart.refl _ _ _⟩
  · exact ⟨7, l, ⟨fun A g lv cap W hW => (sset_no A g size cap l lv x y s W hW hs hq).mono (fun e w' ⟨he, hx⟩ => ⟨he, NextA.same hW hx, Chg.of_ext hx⟩),
      fun P cap W hW => by
        have := refSet7_no P size cap l x y s hW hs (by unfold plF; rw [if_neg hq]; decide)
        rw [show plF l x y = 7 from by unfold plF; rw [if_neg hq]] at this
        exact this⟩, Apart.refl _ _ _⟩
end
section
variable (size : Nat) (l : List ByteArray) (x y : Int) (hg : GoodL size l) (hx : -9223372036854775808 ≤ x ∧ x ≤ 9223372036854775807) (hy : -9223372036854775808 ≤ y ∧ y ≤ 9223372036854775807)
include hg hx hy
theorem both_drop : ∃ r l', BothK 14 40 #[.agg #[.int .i64 x, .int .i64 y]] size l r l' ∧ Apart l l' x y := by
  by_cases hq : 0 ≤ x ∧ x < l.length
  · obtain ⟨q, rfl⟩ : ∃ q : Nat, x = q := ⟨x.toNat, by omega⟩
    have hq' : q < l.length := by omega
    obtain ⟨r, hb, hp⟩ := drop_pg (nthB l q) y (hg.good q hq').1 hy.1 hy.2
    by_cases hl : 1 ≤ y ∧ y ≤ 200
    · exact ⟨r.2, aft l q r, ⟨fun A g lv cap W hW => (sdrop_in A g size cap l lv q y W hW q hq' rfl r hb.1 (goodAft hg hq' hp)).mono (fun e w' ⟨he, h1, h2⟩ => ⟨he, NextA.of h1, h2⟩),
        fun P cap W hW => refDrop7_at P size cap q l y r hW hq' hl (goodAft hg hq' hp) hb.2⟩, Apart.ofAft hq' hp⟩
    · have hll : lineB y = false := by simp [lineB]; omega
      exact ⟨7, l, ⟨fun A g lv cap W hW => (sdrop_in A g size cap l lv q y W hW q hq' rfl (⟨#[]⟩, 7) (fun w => drop_line (nthB l q) y w (hg.good q hq').1 hy.1 hy.2 hll) (fun e => by cases e)).mono (fun e w' ⟨he, h1, h2⟩ => ⟨he, NextA.of h1, h2⟩),
        fun P cap W hW => by
          have := refDrop7_no P size cap l q y hW (by unfold plF; rw [if_pos hq, if_neg hl]; decide)
          rw [show plF l (q : Int) y = 7 from by unfold plF; rw [if_pos hq, if_neg hl]] at this
          exact this⟩, Apart.refl _ _ _⟩
  · exact ⟨7, l, ⟨fun A g lv cap W hW => (sdrop_no A g size cap l lv x y W hW hq).mono (fun e w' ⟨he, hx⟩ => ⟨he, NextA.same hW hx, Chg.of_ext hx⟩),
      fun P cap W hW => by
        have := refDrop7_no P size cap l x y hW (by unfold plF; rw [if_neg hq]; decide)
        rw [show plF l x y = 7 from by unfold plF; rw [if_neg hq]] at this
        exact this⟩, Apart.refl _ _ _⟩
end
theorem both_grow (size : Nat) (l : List ByteArray) (x : Int) (hg : GoodL size l) (hx : x ≤ 9223372036854775807) : ∃ r l', BothK 41 42 #[.int .i64 x] size l r l' ∧ (r = 0 → (l'.length : Int) = l.length + x) := by
  by_cases h0 : grL x l.length = 0
  · have hb : 1 ≤ x ∧ (l.length : Int) + x ≤ 200 := by
      unfold grL at h0
      split at h0
      · cases h0
      · split at h0
        · cases h0
        · omega
    obtain ⟨k, rfl⟩ : ∃ k : Nat, x = k := ⟨x.toNat, by omega⟩
    exact ⟨0, l ++ List.replicate k (newP size), ⟨fun A g lv cap W hW => sgrow_yes A g size cap l lv k W hW (by omega) (by omega), fun P cap W hW => refGrow7_yes P size cap l k hW (by omega) (by omega)⟩, fun _ => by simp⟩
  · exact ⟨grL x l.length, l, ⟨fun A g lv cap W hW => (sgrow_no A g size cap l lv x _ W hW hx rfl h0).mono (fun e w' ⟨he, hx⟩ => ⟨he, NextA.same hW hx, Chg.of_ext hx⟩), fun P cap W hW => refGrow7_no P size cap l x _ hW hx rfl h0⟩, fun h => absurd h h0⟩
theorem both_shrink (size : Nat) (l : List ByteArray) (hg : GoodL size l) : ∃ r l', BothK 43 44 #[] size l r l' :=
  ⟨_, _, ⟨fun A g lv cap W hW => (sshrink_any A g size cap l lv W hW).mono (fun e w' ⟨he, h1, h2⟩ => ⟨he, ⟨g, lv, cap, h1, .inl rfl⟩, h2⟩), fun P cap W hW => refShrink7 P size cap l hW⟩⟩
theorem both_replace (size : Nat) (l : List ByteArray) (x : Int) (p : ByteArray) (hg : GoodL size l) (hps : p.size ≤ 140737488355328) : ∃ r l', BothK 45 46 #[.int .i64 x, .string p] size l r l' := by
  by_cases hz : p.size = size
  · by_cases hv : ValidR p
    · by_cases hq : 0 ≤ x ∧ x < l.length
      · obtain ⟨q, rfl⟩ : ∃ q : Nat, x = q := ⟨x.toNat, by omega⟩
        exact ⟨0, l.set q p, ⟨fun A g lv cap W hW => (sreplace_at A g size cap l lv p W hW hz hv q (by omega)).mono (fun e w' ⟨he, h1, h2⟩ => ⟨he, NextA.of h1, h2⟩), fun P cap W hW => refReplace7_at P size cap q l p hW hps hv hz (by omega)⟩⟩
      · exact ⟨7, l, ⟨fun A g lv cap W hW => (sreplace_no A g size cap l lv p W hW hz hv x hq).mono (fun e w' ⟨he, hx⟩ => ⟨he, NextA.same hW hx, Chg.of_ext hx⟩), fun P cap W hW => refReplace7_no P size cap l x p hW hps hv hz hq⟩⟩
    · exact ⟨1, l, ⟨fun A g lv cap W hW => (sreplace_bad A g size cap l lv x p W hW hz hv).mono (fun e w' ⟨he, hx⟩ => ⟨he, NextA.same hW hx, Chg.of_ext hx⟩), fun P cap W hW => refReplace7_bad P size cap l x p hW hps (fun h => hv h.1)⟩⟩
  · exact ⟨1, l, ⟨fun A g lv cap W hW => (sreplace_size A g size cap l lv x p W hW hz).mono (fun e w' ⟨he, hx⟩ => ⟨he, NextA.same hW hx, Chg.of_ext hx⟩), fun P cap W hW => refReplace7_bad P size cap l x p hW hps (fun h => hz h.2)⟩⟩
/-- Put of both -/
structure BothP (x : Int) (s : ByteArray) (size : Nat) (l : List ByteArray) (ax ay r : Int) (l' : List ByteArray) : Prop where
  prog : ∀ A g lv cap W, Sp W A g size l lv cap → Calls Tryz.prog 33 #[.pointer (some ⟨A, 0, none⟩), .int .i64 x, .string s] W fun e w' => e = .returned (.tuple #[.agg #[.int .i64 ax, .int .i64 ay], .int .i64 r]) ∧ NextA A g W w' size l' ∧ Chg A g W w'
  ref : ∀ P cap W, RS W P cap size l → Calls Tryz.prog 37 #[.agg #[.int .i64 size, .slice P l.length cap], .int .i64 x, .string s] W fun e w' => (∃ v, e = .returned (.tuple #[v, .agg #[.int .i64 ax, .int .i64 ay], .int .i64 r]) ∧ NextR W P w' v size l') ∧ Ext W w'
theorem both_put (size : Nat) (l : List ByteArray) (x : Int) (s : ByteArray) (hg : GoodL size l) (hs2 : s.size ≤ 140737488355328) : ∃ ax ay r l', BothP x s size l ax ay r l' := by
  by_cases hs : s.toList = []
  · exact ⟨0, 0, 1, l, ⟨fun A g lv cap W hW => (sput_empty A x s W hs).mono (fun e w' ⟨he, hx⟩ => ⟨he, NextA.same hW hx, Chg.of_ext hx⟩), fun P cap W hW => refPut7_empty P size cap l x s hW hs⟩⟩
  have hs0 : 1 ≤ s.size := by have h := hs; rw [toList_nil] at h; omega
  by_cases hq : 0 ≤ x ∧ x < l.length
  · obtain ⟨q, rfl⟩ : ∃ q : Nat, x = q := ⟨x.toNat, by omega⟩
    have hq' : q < l.length := by omega
    by_cases hb : size < s.size
    · have hf : FindR l q s.size (0, 13) := .inr ⟨fun j hj => by
        have hm : (q + j) % l.length < l.length := Nat.mod_lt _ (by omega)
        obtain ⟨hv, hz⟩ := hg.good _ hm
        apply Classical.byContradiction
        intro hh
        have hh : holdsB (nthB l ((q + j) % l.length)) s.size = true := by simpa using hh
        have h1 := holds_may hv s.size hh
        unfold holdsB topLine at hh
        simp only [Bool.and_eq_true, decide_eq_true_eq] at hh
        have h2 := cel_room hv
        have h3 := roomP_le hv
        unfold roomP roomF at h3
        obtain ⟨_, h4⟩ := hh
        split at h4 <;> omega, rfl⟩
      exact ⟨0, 0, 13, l, ⟨fun A g lv cap W hW => (sput_no A g size cap l lv q s W hW hs 13 (by decide) (fun W hW => find_full A g size cap l lv q s.size W hW (by omega) (by omega) (by omega))).mono (fun e w' ⟨he, hx⟩ => ⟨he, NextA.same hW hx, Chg.of_ext hx⟩),
        fun P cap W hW => refPut7_no P size cap l q 0 13 s hW hs (by decide) (fun W hW => refFind7 P size cap q s.size l (0, 13) hW hq' hs0 hs2 hf)⟩⟩
    · obtain ⟨r, hf⟩ := findR_some l q s.size
      have hP := fun A g lv cap W hW => find_main A g size cap l lv q s.size W hW hq' (by omega) (by omega) r hf
      have hR := fun P cap W hW => refFind7 P size cap q s.size l r (w := W) hW hq' hs0 hs2 hf
      rcases hf with ⟨i, hi, h1, h2, rfl⟩ | ⟨h1, rfl⟩
      · have hm : (q + i) % l.length < l.length := Nat.mod_lt _ (by omega)
        obtain ⟨hv, hz⟩ := hg.good _ hm
        obtain ⟨p', line, hv', hz', hp1, hp2⟩ := put_pg (nthB l ((q + i) % l.length)) s hv hs hs2 h1
        exact ⟨_, line, 0, l.set ((q + i) % l.length) p', ⟨fun A g lv cap W hW => (sput_yes A g size cap l lv q s W hW hs _ hm (fun W hW => hP A g lv cap W hW) p' line hv' (by rw [hz', hz]) hp1).mono (fun e w' ⟨he, h1, h2⟩ => ⟨he, NextA.of h1, h2⟩),
          fun P cap W hW => refPut7_at P size cap _ l q line s p' hW hs hm ⟨hv', by rw [hz', hz]⟩ (fun W hW => hR P cap W hW) hp2⟩⟩
      · exact ⟨0, 0, 13, l, ⟨fun A g lv cap W hW => (sput_no A g size cap l lv q s W hW hs 13 (by decide) (fun W hW => hP A g lv cap W hW)).mono (fun e w' ⟨he, hx⟩ => ⟨he, NextA.same hW hx, Chg.of_ext hx⟩),
          fun P cap W hW => refPut7_no P size cap l q 0 13 s hW hs (by decide) (fun W hW => hR P cap W hW)⟩⟩
  · exact ⟨0, 0, 7, l, ⟨fun A g lv cap W hW => (sput_no A g size cap l lv x s W hW hs 7 (by decide) (fun W hW => find_range A g size cap l lv x s.size W hW hq)).mono (fun e w' ⟨he, hx⟩ => ⟨he, NextA.same hW hx, Chg.of_ext hx⟩),
      fun P cap W hW => refPut7_no P size cap l x 0 7 s hW hs (by decide) (fun W hW => refFind7_no P size cap x s.size l hW.le (fun h => hq h.1))⟩⟩
end
section
open Go.RowKit
set_option linter.unusedVariables false
set_option linter.unusedSimpArgs false
set_option linter.unusedSectionVars false
set_option maxRecDepth 20000

/-- a box of five cells -/
structure FCell (t : TypeId) (w : World) (R : Nat) (a b c d e : Value) : Prop where
  heap : w.heap[R]? = some (.cells #[a, b, c, d, e] t (0, 0))
section
variable {t : TypeId} {w w' : World} {R : Nat} {a b c d e : Value}
theorem FCell.new (t : TypeId) (w : World) (a b c d e : Value) : FCell t (w.alloc (.cells #[a, b, c, d, e] t)) w.heap.size a b c d e := ⟨World.alloc_heap_new w _⟩
theorem FCell.ext (h : FCell t w R a b c d e) (hx : Ext w w') : FCell t w' R a b c d e := ⟨hx.heap h.heap⟩
theorem FCell.lt (h : FCell t w R a b c d e) : R < w.heap.size := (Array.getElem?_eq_some_iff.1 h.heap).1
theorem FCell.chg {A g : Nat} (h : FCell t w R a b c d e) (hc : Chg A g w w') (hA : R ≠ A) (hg : R ≠ g) : FCell t w' R a b c d e := ⟨(hc.block R h.lt hA hg).trans h.heap⟩
theorem FCell.cells (h : FCell t w R a b c d e) : w.cell? ⟨R, 0, none⟩ = some a ∧ w.cell? ⟨R, 1, none⟩ = some b ∧ w.cell? ⟨R, 2, none⟩ = some c ∧ w.cell? ⟨R, 3, none⟩ = some d ∧ w.cell? ⟨R, 4, none⟩ = some e :=
  ⟨by simp [World.cell?, h.heap], by simp [World.cell?, h.heap], by simp [World.cell?, h.heap], by simp [World.cell?, h.heap], by simp [World.cell?, h.heap]⟩
theorem FCell.fr (h : FCell t w R a b c d e) : w.frozen? ⟨R, 0, none⟩ = false ∧ w.frozen? ⟨R, 1, none⟩ = false ∧ w.frozen? ⟨R, 2, none⟩ = false ∧ w.frozen? ⟨R, 3, none⟩ = false ∧ w.frozen? ⟨R, 4, none⟩ = false :=
  ⟨by simp [World.frozen?, h.heap], by simp [World.frozen?, h.heap], by simp [World.frozen?, h.heap], by simp [World.frozen?, h.heap], by simp [World.frozen?, h.heap]⟩
theorem FCell.set0 (h : FCell t w R a b c d e) (u : Value) : FCell t (w.setCell ⟨R, 0, none⟩ u) R u b c d e := ⟨by rw [heap_setCell_same w R 0 _ _ _ h.heap]; rfl⟩
theorem FCell.set1 (h : FCell t w R a b c d e) (u : Value) : FCell t (w.setCell ⟨R, 1, none⟩ u) R a u c d e := ⟨by rw [heap_setCell_same w R 1 _ _ _ h.heap]; rfl⟩
theorem FCell.set2 (h : FCell t w R a b c d e) (u : Value) : FCell t (w.setCell ⟨R, 2, none⟩ u) R a b u d e := ⟨by rw [heap_setCell_same w R 2 _ _ _ h.heap]; rfl⟩
theorem FCell.set3 (h : FCell t w R a b c d e) (u : Value) : FCell t (w.setCell ⟨R, 3, none⟩ u) R a b c u e := ⟨by rw [heap_setCell_same w R 3 _ _ _ h.heap]; rfl⟩
theorem FCell.set4 (h : FCell t w R a b c d e) (u : Value) : FCell t (w.setCell ⟨R, 4, none⟩ u) R a b c d u := ⟨by rw [heap_setCell_same w R 4 _ _ _ h.heap]; rfl⟩
theorem FCell.far (h : FCell t w R a b c d e) {p : Addr} (hp : R ≠ p.block) (u : Value) : FCell t (w.setCell p u) R a b c d e := ⟨(Below.heap_setCell w p u R hp).trans h.heap⟩
end
/-- a box of six cells -/
structure GCell (t : TypeId) (w : World) (R : Nat) (a b c d e f : Value) : Prop where
  heap : w.heap[R]? = some (.cells #[a, b, c, d, e, f] t (0, 0))
section
variable {t : TypeId} {w w' : World} {R : Nat} {a b c d e f : Value}
theorem GCell.new (t : TypeId) (w : World) (a b c d e f : Value) : GCell t (w.alloc (.cells #[a, b, c, d, e, f] t)) w.heap.size a b c d e f := ⟨World.alloc_heap_new w _⟩
theorem GCell.ext (h : GCell t w R a b c d e f) (hx : Ext w w') : GCell t w' R a b c d e f := ⟨hx.heap h.heap⟩
theorem GCell.lt (h : GCell t w R a b c d e f) : R < w.heap.size := (Array.getElem?_eq_some_iff.1 h.heap).1
theorem GCell.chg {A g : Nat} (h : GCell t w R a b c d e f) (hc : Chg A g w w') (hA : R ≠ A) (hg : R ≠ g) : GCell t w' R a b c d e f := ⟨(hc.block R h.lt hA hg).trans h.heap⟩
theorem GCell.cells (h : GCell t w R a b c d e f) : w.cell? ⟨R, 0, none⟩ = some a ∧ w.cell? ⟨R, 1, none⟩ = some b ∧ w.cell? ⟨R, 2, none⟩ = some c ∧ w.cell? ⟨R, 3, none⟩ = some d ∧ w.cell? ⟨R, 4, none⟩ = some e ∧ w.cell? ⟨R, 5, none⟩ = some f :=
  ⟨by simp [World.cell?, h.heap], by simp [World.cell?, h.heap], by simp [World.cell?, h.heap], by simp [World.cell?, h.heap], by simp [World.cell?, h.heap], by simp [World.cell?, h.heap]⟩
end
theorem RS.chg {w w' : World} {P : Option Addr} {cap size A g : Nat} {l : List ByteArray} (h : RS w P cap size l) (hc : Chg A g w w') (hne : ∀ b off m, P = some ⟨b, off, m⟩ → b ≠ A ∧ b ≠ g) : RS w' P cap size l := by
  refine ⟨⟨fun i x hi => ?_, h.sl.le, h.sl.cap⟩, h.nil, h.good, h.pos, h.le, h.sz⟩
  obtain ⟨b, off, e, h1⟩ := h.sl.at_ i x hi
  refine ⟨b, off, e, fun j u hj => ?_⟩
  have hcell := h1 j u hj
  have := hne b off none e
  rw [World.cell?_of_block (hc.block b (block_lt hcell) this.1 this.2)]
  exact hcell
theorem Sp.upd {w w' : World} {A g size cap X : Nat} {l : List ByteArray} {lv : List UInt8} (h : Sp w A g size l lv cap) (hu : Upd w X w') (hA : A ≠ X) (hg : g ≠ X) : Sp w' A g size l lv cap :=
  h.same (hu.block A h.ar.lt (fun e => hA (by injection e))) (hu.block g h.gl (fun e => hg (by injection e)))
/-- both areas: the program's has the pages l, the reference's l0 -/
structure Mid (lo : Nat) (w : World) (X A g size cap : Nat) (l : List ByteArray) (lv : List UInt8) (l0 : List ByteArray) (P : Option Addr) (c : Nat) : Prop where
  sp : Sp w A g size l lv cap
  rs : RS w P c size l0
  far : ∀ b off m, P = some ⟨b, off, m⟩ → b ≠ A ∧ b ≠ g ∧ b ≠ X ∧ lo ≤ b
  ax : A ≠ X
  gx : g ≠ X
  la : lo ≤ A
  lg : lo ≤ g
  lx : lo ≤ X
  xw : X < w.heap.size
theorem Mid.ext {lo : Nat} {w w' : World} {X A g size cap : Nat} {l : List ByteArray} {lv : List UInt8} {l0 : List ByteArray} {P : Option Addr} {c : Nat} (h : Mid lo w X A g size cap l lv l0 P c) (hx : Ext w w') : Mid lo w' X A g size cap l lv l0 P c :=
  ⟨h.sp.ext hx, h.rs.ext hx, h.far, h.ax, h.gx, h.la, h.lg, h.lx, Nat.lt_of_lt_of_le h.xw hx.size⟩
theorem Mid.upd {lo : Nat} {w w' : World} {X A g size cap : Nat} {l : List ByteArray} {lv : List UInt8} {l0 : List ByteArray} {P : Option Addr} {c : Nat} (h : Mid lo w X A g size cap l lv l0 P c) (hu : Upd w X w') : Mid lo w' X A g size cap l lv l0 P c :=
  ⟨h.sp.upd hu h.ax h.gx, h.rs.upd hu (fun b off m e => (h.far b off m e).2.2.1), h.far, h.ax, h.gx, h.la, h.lg, h.lx, Nat.lt_of_lt_of_le h.xw hu.size⟩
theorem Mid.prog {lo : Nat} {w w' : World} {X A g size cap : Nat} {l l' : List ByteArray} {lv : List UInt8} {l0 : List ByteArray} {P : Option Addr} {c : Nat} (h : Mid lo w X A g size cap l lv l0 P c) (hn : NextA A g w w' size l') (hc : Chg A g w w') : ∃ g' lv' cap', Mid lo w' X A g' size cap' l' lv' l0 P c := by
  obtain ⟨g', lv', cap', h1, h2⟩ := hn
  obtain ⟨b, off, e, hb⟩ := h.rs.known
  refine ⟨g', lv', cap', h1, h.rs.chg hc (fun b off m e => ⟨(h.far b off m e).1, (h.far b off m e).2.1⟩), fun b' off' m' e' => ?_, h.ax, ?_, h.la, ?_, h.lx, Nat.lt_of_lt_of_le h.xw hc.size⟩
  · have hf := h.far b' off' m' e'
    refine ⟨hf.1, ?_, hf.2.2⟩
    rw [e] at e'
    injection e' with e'
    injection e' with e1
    rcases h2 with rfl | h2
    · exact hf.2.1
    · omega
  · rcases h2 with rfl | h2
    · exact h.gx
    · have := h.xw; omega
  · rcases h2 with rfl | h2
    · exact h.lg
    · have := h.xw; have := h.lx; omega
theorem Mid.ref {lo : Nat} {w w' : World} {X A g size cap : Nat} {l l' : List ByteArray} {lv : List UInt8} {l0 : List ByteArray} {P : Option Addr} {c : Nat} {v : Value} (h : Mid lo w X A g size cap l lv l0 P c) (hn : NextR w P w' v size l') (hx : Ext w w') : ∃ P' c', v = .agg #[.int .i64 size, .slice P' l'.length c'] ∧ Mid lo w' X A g size cap l lv l' P' c' := by
  obtain ⟨P', c', e, h1, h2⟩ := hn
  refine ⟨P', c', e, h.sp.ext hx, h1, fun b' off' m' e' => ?_, h.ax, h.gx, h.la, h.lg, h.lx, Nat.lt_of_lt_of_le h.xw hx.size⟩
  rcases h2 with rfl | ⟨g2, e2, h2⟩
  · exact h.far b' off' m' e'
  · rw [e2] at e'
    injection e' with e'
    injection e' with e1
    have h3 := h.sp.ar.lt
    have h4 := h.sp.gl
    have h5 := h.xw
    have h6 := h.lx
    exact ⟨by omega, by omega, by omega, by omega⟩
theorem Mid.chgX {lo : Nat} {w w' : World} {X A g size cap : Nat} {l : List ByteArray} {lv : List UInt8} {l0 : List ByteArray} {P : Option Addr} {c : Nat} {t : TypeId} {a1 a2 a3 a4 a5 : Value} (h : Mid lo w X A g size cap l lv l0 P c) (hX : FCell t w X a1 a2 a3 a4 a5) (hc : Chg A g w w') : FCell t w' X a1 a2 a3 a4 a5 := hX.chg hc (fun e => h.ax e.symm) (fun e => h.gx e.symm)
theorem Mid.base {lo R : Nat} {w w' : World} {X A g size cap : Nat} {l : List ByteArray} {lv : List UInt8} {l0 : List ByteArray} {P : Option Addr} {c : Nat} (h : Mid lo w X A g size cap l lv l0 P c) (hu : Upd w R w') (hR : R < lo) : Mid lo w' X A g size cap l lv l0 P c :=
  ⟨h.sp.upd hu (by have := h.la; omega) (by have := h.lg; omega), h.rs.upd hu (fun b off m e => by have := (h.far b off m e).2.2.2; omega), h.far, h.ax, h.gx, h.la, h.lg, h.lx, Nat.lt_of_lt_of_le h.xw hu.size⟩
theorem Mid.low {lo lo' : Nat} {w : World} {X A g size cap : Nat} {l : List ByteArray} {lv : List UInt8} {l0 : List ByteArray} {P : Option Addr} {c : Nat} (h : Mid lo w X A g size cap l lv l0 P c) (hl : lo' ≤ lo) : Mid lo' w X A g size cap l lv l0 P c :=
  ⟨h.sp, h.rs, fun b off m e => by have := h.far b off m e; exact ⟨this.1, this.2.1, this.2.2.1, Nat.le_trans hl this.2.2.2⟩, h.ax, h.gx, Nat.le_trans hl h.la, Nat.le_trans hl h.lg, Nat.le_trans hl h.lx, h.xw⟩
theorem Mid.copy {lo : Nat} {w w' : World} {X A g A' g' size cap cap' : Nat} {l : List ByteArray} {lv : List UInt8} {l0 : List ByteArray} {P : Option Addr} {c : Nat} (h : Mid lo w X A g size cap l lv l0 P c) (hS : Sp w' A' g' size l lv cap') (hA : w.heap.size ≤ A') (hg : w.heap.size ≤ g') (hx : Ext w w') : Mid lo w' X A' g' size cap' l lv l0 P c := by
  obtain ⟨b, off, e, hb⟩ := h.rs.known
  have h1 := h.xw
  have h2 := h.lx
  refine ⟨hS, h.rs.ext hx, fun b' off' m' e' => ?_, by omega, by omega, by omega, by omega, h.lx, Nat.lt_of_lt_of_le h.xw hx.size⟩
  have h3 := h.far b' off' m' e'
  rw [e] at e'
  injection e' with e'
  injection e' with e1
  exact ⟨by omega, by omega, h3.2.2.1, h3.2.2.2⟩
theorem Mid.chgFar {lo : Nat} {w w' : World} {X A g A' g' size cap : Nat} {l : List ByteArray} {lv : List UInt8} {l0 : List ByteArray} {P : Option Addr} {c : Nat} (h : Mid lo w X A' g' size cap l lv l0 P c) (hc : Chg A g w w') (h1 : A' ≠ A) (h2 : A' ≠ g) (h3 : g' ≠ A) (h4 : g' ≠ g) (h5 : ∀ b off m, P = some ⟨b, off, m⟩ → b ≠ A ∧ b ≠ g) : Mid lo w' X A' g' size cap l lv l0 P c :=
  ⟨h.sp.same (hc.block A' h.sp.ar.lt h1 h2) (hc.block g' h.sp.gl h3 h4), h.rs.chg hc h5, h.far, h.ax, h.gx, h.la, h.lg, h.lx, Nat.lt_of_lt_of_le h.xw hc.size⟩
/-- the acts of a play -/
structure AcS where
  kind : Int
  near : Int
  n : Int
  px : Int
  py : Int
  data : ByteArray
def inI (x : Int) : Prop := -9223372036854775808 ≤ x ∧ x ≤ 9223372036854775807
structure AcOk (x : AcS) : Prop where
  kind : inI x.kind
  near : inI x.near
  n : inI x.n
  px : inI x.px
  py : inI x.py
  data : x.data.size ≤ 140737488355328
abbrev csAc (x : AcS) : List Value := [.int .i64 x.kind, .int .i64 x.near, .int .i64 x.n, .int .i64 x.px, .int .i64 x.py, .string x.data]
end
end Go.Proofs.YtnileonlabpbpaaGreat
