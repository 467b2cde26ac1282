/- Arrays: remove. -/
import Derived.Test.YtiakmcfbkceojaaArX1
import Derived.Test.YtiakmcfbkceojaaArT
import Derived.Test.YtiakmcfbkceojaaHeld
import Derived.Deep.RegionHeld3
namespace Go.Proofs.Ytiakmcfbkceojaa
open Go.RowKit Go.Maps
set_option linter.unusedVariables false
set_option linter.unusedSimpArgs false
set_option linter.unusedSectionVars false
set_option maxRecDepth 20000
attribute [local go_sem] Oper.semAt_some

/-- a record of where a key stands -/
def AtB (W : World) (n : Nat) (i q p k : Int) : Prop := W.heap[n]? = some (.cells #[.int .i64 i, .int .i64 q, .int .i64 p, .int .i64 k] 62 (0, 0))
theorem AtB.lt {W : World} {n : Nat} {i q p k : Int} (h : AtB W n i q p k) : n < W.heap.size := (Array.getElem?_eq_some_iff.1 h).1
theorem AtB.c1 {W : World} {n : Nat} {i q p k : Int} (h : AtB W n i q p k) : W.cell? ⟨n, 1, none⟩ = some (.int .i64 q) := by unfold AtB at h; simp [World.cell?, h]
theorem AtB.c2 {W : World} {n : Nat} {i q p k : Int} (h : AtB W n i q p k) : W.cell? ⟨n, 2, none⟩ = some (.int .i64 p) := by unfold AtB at h; simp [World.cell?, h]
theorem AtB.c3 {W : World} {n : Nat} {i q p k : Int} (h : AtB W n i q p k) : W.cell? ⟨n, 3, none⟩ = some (.int .i64 k) := by unfold AtB at h; simp [World.cell?, h]
/-- one block is changed in place, and its slice stored -/
theorem set_tight {w Wd w3 : World} {base g cap n : Nat} {A B : List Row} {r r' : Row} (h : OwnA w base (.slice (some ⟨g, 0, none⟩) n cap) (A ++ r :: B)) (hT : ∀ x ∈ A ++ r :: B, TightB w base x) (hx : Ext w Wd) (hu : Upd Wd r.h w3) (hr : TightB w3 base r') (hh : r'.h = r.h) :
    OwnA (w3.setCell ⟨g, A.length, none⟩ r'.v) base (.slice (some ⟨g, 0, none⟩) n cap) (A ++ r' :: B) ∧ ∀ x ∈ A ++ r' :: B, TightB (w3.setCell ⟨g, A.length, none⟩ r'.v) base x := by
  have hO := h.ext hx
  have hap := hO.apart
  rw [List.map_append, List.map_cons, List.nodup_append, List.nodup_cons] at hap
  obtain ⟨hA, ⟨hrB, hB⟩, hAB⟩ := hap
  have old : ∀ x ∈ A ++ r :: B, x.h ≠ r.h → TightB (w3.setCell ⟨g, A.length, none⟩ r'.v) base x := fun x hx' hne =>
    ((hT x hx').ext hx).same ((Below.heap_setCell _ _ _ _ (fun e => hO.far x hx' (by simp only [Value.ownBlock]; rw [e]))).trans (hu.block _ (hO.lt hx') (fun e => hne (by injection e))))
  refine ⟨hO.set_ hu hr.inB (.inl hh), fun x hx' => ?_⟩
  rcases List.mem_append.1 hx' with hx' | hx'
  · exact old x (by simp [hx']) (fun e => hAB x.h (by simp; exact ⟨x, hx', rfl⟩) r.h (by simp) e)
  · rcases List.mem_cons.1 hx' with rfl | hx'
    · exact hr.same (Below.heap_setCell _ _ _ _ (fun e => hO.far r (by simp) (by simp only [Value.ownBlock]; rw [← hh]; exact congrArg some e.symm)))
    · exact old x (by simp [hx']) (fun e => hrB (by simp; exact ⟨x, hx', e⟩))
/-- slices.Delete of one block -/
theorem del_row {base g cap n i : Nat} {A B : List Row} {r : Row} {w Wd : World} (h : OwnA w base (.slice (some ⟨g, 0, none⟩) n cap) (A ++ r :: B)) (hT : ∀ x ∈ A ++ r :: B, TightB w base x) (hn : n = (A ++ r :: B).length) (hi : A.length = i) (hle : n ≤ 10000) (hx : Ext w Wd) :
    Calls Try.prog 69 #[.slice (some ⟨g, 0, none⟩) n cap, .int .i64 i, .int .i64 ((i : Int) + 1)] Wd fun e w' => e = .returned (.slice (some ⟨g, 0, none⟩) (n - 1) cap) ∧ OwnA w' base (.slice (some ⟨g, 0, none⟩) (n - 1) cap) (A ++ B) ∧ (∀ x ∈ A ++ B, TightB w' base x) ∧ Upd Wd g w' := by
  have hO := h.ext hx
  have ho := hO.out
  have hl : ((A ++ r :: B).map Row.v).length = n := by rw [List.length_map, hn]
  rw [← hn, ← hl] at ho
  have h2 := deleteJ ((A ++ r :: B).map Row.v) g cap base i Wd (by omega) (rowVs_one _) (by rw [hl, hn, ← hi]; simp) (by rw [hl] at ho ⊢; exact ho)
  rw [hl] at h2
  refine h2.mono ?_
  rintro e w' ⟨rfl, ho', hu⟩
  have e1 : ((A ++ r :: B).map Row.v).eraseIdx i = (A ++ B).map Row.v := by
    rw [← hi, List.eraseIdx_eq_take_drop_succ, List.map_append, List.map_cons, List.take_left' (by simp), List.map_append]
    congr 1
    rw [List.append_cons]
    exact List.drop_left' (by simp)
  rw [e1] at ho'
  refine ⟨rfl, hO.del hu ho' hn, fun x hx' => ?_, hu⟩
  have hx2 : x ∈ A ++ r :: B := by
    rcases List.mem_append.1 hx' with h3 | h3
    · simp [h3]
    · simp [h3]
  exact ((hT x hx2).ext hx).kept hu (fun e => hO.far x hx2 (by simp only [Value.ownBlock]; rw [e]))
/-- a new block takes the place of one -/
theorem OwnA.put_new {w w1 : World} {base g cap n : Nat} {A B : List Row} {r r' : Row} (h : OwnA w base (.slice (some ⟨g, 0, none⟩) n cap) (A ++ r :: B)) (hx : Ext w w1) (hr : InB w1 base r') (hf : w.heap.size ≤ r'.h) : OwnA (w1.setCell ⟨g, A.length, none⟩ r'.v) base (.slice (some ⟨g, 0, none⟩) n cap) (A ++ r' :: B) := by
  have hgl := (h.out.lt g rfl).2
  have hn : n = (A ++ r :: B).length := by
    rcases h.cases with ⟨h1, _⟩ | ⟨g', cap', h1, _⟩
    · simp at h1
    · simp only [Value.slice.injEq] at h1
      exact h1.2.1
  subst hn
  have hap := h.apart
  rw [List.map_append, List.map_cons, List.nodup_append, List.nodup_cons] at hap
  obtain ⟨hA, ⟨hrB, hB⟩, hAB⟩ := hap
  have hlt : ∀ x ∈ A ++ B, x.h < w.heap.size ∧ InB w1 base x ∧ x.h ≠ g := fun x hx' => by
    have hm : x ∈ A ++ r :: B := by
      rcases List.mem_append.1 hx' with h3 | h3
      · simp [h3]
      · simp [h3]
    exact ⟨h.lt hm, (h.row x hm).same (hx.block (h.lt hm)), fun e => h.far x hm (by rw [e]; rfl)⟩
  have hr'g : r'.h ≠ g := by omega
  have ho2 := ((rowExt h.out hx).stored A.length r'.v).1
  refine ⟨?_, fun x hx' => ?_, ?_, fun x hx' e => ?_⟩
  · have e1 : ((A ++ r :: B).map Row.v).set A.length r'.v = (A ++ r' :: B).map Row.v := by
      simp only [List.map_append, List.map_cons]
      rw [List.set_append_right _ _ (by simp)]
      simp
    rw [e1] at ho2
    have e2 : (A ++ r' :: B).length = (A ++ r :: B).length := by simp
    rw [e2]
    exact ho2
  · rcases List.mem_append.1 hx' with h3 | h3
    · exact (hlt x (by simp [h3])).2.1.same (Below.heap_setCell _ _ _ _ (hlt x (by simp [h3])).2.2)
    · rcases List.mem_cons.1 h3 with rfl | h3
      · exact hr.same (Below.heap_setCell _ _ _ _ hr'g)
      · exact (hlt x (by simp [h3])).2.1.same (Below.heap_setCell _ _ _ _ (hlt x (by simp [h3])).2.2)
  · rw [List.map_append, List.map_cons, List.nodup_append, List.nodup_cons]
    refine ⟨hA, ⟨fun hm => ?_, hB⟩, fun x hx' y hy e => ?_⟩
    · simp only [List.mem_map] at hm
      obtain ⟨x, hx', e⟩ := hm
      have := (hlt x (by simp [hx'])).1
      omega
    · subst e
      simp only [List.mem_map] at hx'
      obtain ⟨z, hz, e⟩ := hx'
      rcases List.mem_cons.1 hy with h3 | h3
      · have := (hlt z (by simp [hz])).1
        omega
      · exact hAB z.h (by simp; exact ⟨z, hz, rfl⟩) x (by simp at h3 ⊢; exact .inr h3) e
  · simp only [Value.ownBlock, Option.some.injEq] at e
    rcases List.mem_append.1 hx' with h3 | h3
    · exact (hlt x (by simp [h3])).2.2 e.symm
    · rcases List.mem_cons.1 h3 with rfl | h3
      · exact hr'g e.symm
      · exact (hlt x (by simp [h3])).2.2 e.symm
theorem split2 {RR : List Row} {f : Nat} (h : f + 1 < RR.length) : RR = RR.take f ++ nthR RR f :: nthR RR (f + 1) :: RR.drop (f + 2) := by
  have h1 := splitR (RR := RR) (i := f) (by omega)
  rw [nthR_drop h] at h1
  exact h1
/-- blocks f and f + 1 become one -/
def mergeAt (LL : List (List Int)) (f : Nat) : List (List Int) := LL.take f ++ (nthA LL f ++ nthA LL (f + 1)) :: LL.drop (f + 2)
/-- two blocks made one, as rows -/
theorem merged_rows {w w1 : World} {base g cap : Nat} {RR : List Row} {f gc cc : Nat} (h : OwnA w base (.slice (some ⟨g, 0, none⟩) RR.length cap) RR) (hT : ∀ x ∈ RR, TightB w base x) (hf : f + 1 < RR.length) (hx : Ext w w1) (hr : TightB w1 base ⟨gc, cc, (nthR RR f).l ++ (nthR RR (f + 1)).l⟩) (hfr : w.heap.size ≤ gc) :
    ∃ R5 : List Row, OwnA (w1.setCell ⟨g, f, none⟩ (.slice (some ⟨gc, 0, none⟩) ((nthR RR f).l ++ (nthR RR (f + 1)).l).length cc)) base (.slice (some ⟨g, 0, none⟩) RR.length cap) (R5.take (f + 1) ++ nthR RR (f + 1) :: R5.drop (f + 1)) ∧ (∀ x ∈ R5.take (f + 1) ++ nthR RR (f + 1) :: R5.drop (f + 1), TightB (w1.setCell ⟨g, f, none⟩ (.slice (some ⟨gc, 0, none⟩) ((nthR RR f).l ++ (nthR RR (f + 1)).l).length cc)) base x) ∧
      (R5.take (f + 1)).length = f + 1 ∧ (R5.take (f + 1) ++ nthR RR (f + 1) :: R5.drop (f + 1)).length = RR.length ∧ (R5.take (f + 1) ++ R5.drop (f + 1)).map Row.l = mergeAt (RR.map Row.l) f := by
  have hs := split2 hf
  have hl : (RR.take f).length = f := by rw [List.length_take]; omega
  have hgl := (h.out.lt g rfl).2
  have hO2 := h
  rw [hs] at hO2
  have hO3 := hO2.put_new (r' := ⟨gc, cc, (nthR RR f).l ++ (nthR RR (f + 1)).l⟩) hx hr.inB hfr
  rw [← hs, hl] at hO3
  have ht : ∀ (a : Row) (D : List Row), (RR.take f ++ a :: D).take (f + 1) = RR.take f ++ [a] := fun a D => by
    rw [List.append_cons]; exact List.take_left' (by simp [hl])
  have hd : ∀ (a : Row) (D : List Row), (RR.take f ++ a :: D).drop (f + 1) = D := fun a D => by
    rw [List.append_cons]; exact List.drop_left' (by simp [hl])
  refine ⟨RR.take f ++ ⟨gc, cc, (nthR RR f).l ++ (nthR RR (f + 1)).l⟩ :: RR.drop (f + 2), ?_, ?_, ?_, ?_, ?_⟩
  · rw [ht, hd, ← List.append_cons]; exact hO3
  · rw [ht, hd, ← List.append_cons]
    intro x hx'
    have hold : ∀ y ∈ RR, TightB (w1.setCell ⟨g, f, none⟩ (.slice (some ⟨gc, 0, none⟩) ((nthR RR f).l ++ (nthR RR (f + 1)).l).length cc)) base y := fun y hy =>
      ((hT y hy).ext hx).same (Below.heap_setCell _ _ _ _ (fun e => h.far y hy (by simp only [Value.ownBlock]; rw [e])))
    rcases List.mem_append.1 hx' with h3 | h3
    · exact hold x (List.mem_of_mem_take h3)
    · rcases List.mem_cons.1 h3 with rfl | h3
      · exact hr.same (Below.heap_setCell _ _ _ _ (by simp only; omega))
      · refine hold x ?_
        rw [hs]
        simp only [List.mem_append, List.mem_cons] at h3 ⊢
        exact .inr (.inr h3)
  · rw [ht]; simp [hl]
  · rw [ht, hd, ← List.append_cons]
    have := congrArg List.length hs
    simp only [List.length_append, List.length_cons] at this ⊢
    omega
  · rw [ht, hd, List.append_assoc]
    unfold mergeAt
    rw [nthA_map RR f (by omega), nthA_map RR (f + 1) hf, ← List.map_take, ← List.map_drop]
    simp
/-- slices.Concat of two blocks -/
theorem cat2 {Wd : World} {base E : Nat} {x y : Row} (hx : InB Wd base x) (hy : InB Wd base y) (hE : Wd.heap[E]? = some (.cells #[.slice (some ⟨x.h, 0, none⟩) x.l.length x.c, .slice (some ⟨y.h, 0, none⟩) y.l.length y.c] 22 (0, 0))) (hx0 : x.l ≠ []) (hy0 : y.l ≠ []) (hl : x.l.length + y.l.length ≤ 1000) (hb : base ≤ Wd.heap.size) :
    Calls Try.prog 64 #[.slice (some ⟨E, 0, none⟩) 2 2] Wd fun e w' => ∃ gc cc, e = .returned (.slice (some ⟨gc, 0, none⟩) (x.l.length + y.l.length) cc) ∧ TightB w' base ⟨gc, cc, x.l ++ y.l⟩ ∧ Ext Wd w' ∧ Wd.heap.size ≤ gc := by
  have hA : SlA Wd (some ⟨E, 0, none⟩) 2 (fun i => if i = 0 then some ⟨x.h, 0, none⟩ else some ⟨y.h, 0, none⟩) (fun i => if i = 0 then x.c else y.c) [x.l, y.l] := by
    refine ⟨fun i hi => ⟨_, 0, rfl, ?_⟩, fun i hi => ?_, by simp, by omega⟩
    · match i, hi with
      | 0, _ => simp [World.cell?, hE, nthA]
      | 1, _ => simp [World.cell?, hE, nthA]
    · match i, hi with
      | 0, _ => exact hx.slI
      | 1, _ => exact hy.slI
  have h1 := concat_any _ _ _ _ [x.l, y.l] Wd hA (fun l h => by simp at h; rcases h with rfl | rfl <;> assumption) (by simp; omega)
  refine h1.mono ?_
  rintro e w' ⟨v, rfl, ho, hx'⟩
  have e1 : [x.l, y.l].flatten = x.l ++ y.l := by simp
  rw [e1] at ho
  obtain ⟨gc, cc, rfl, hT⟩ := TightB.of ho (fun e => hx0 (List.append_eq_nil_iff.1 e).1)
  exact ⟨gc, cc, by rw [List.length_append], hT.down hb, hx', hT.inB.1⟩
/-- the round over the two places to join at -/
def LpR (W4 : World) (c1 c2 : Prop) (j : Value) (wr : World) : Prop := ∃ k n : Nat, k ≤ 2 ∧ j = .int .i64 k ∧ wr = W4.drewN n ∧ Hid (1 ≤ k → ¬ c1) ∧ Hid (2 ≤ k → ¬ c2)
theorem nthA_other (X Y : List (List Int)) (m m' : List Int) (i : Nat) (hi : i ≠ X.length) : nthA (X ++ m :: Y) i = nthA (X ++ m' :: Y) i := by
  unfold nthA
  rw [List.getD_eq_getElem?_getD, List.getD_eq_getElem?_getD]
  rcases Nat.lt_or_ge i X.length with h | h
  · rw [List.getElem?_append_left h, List.getElem?_append_left h]
  · rw [List.getElem?_append_right h, List.getElem?_append_right h]
    obtain ⟨k, hk⟩ : ∃ k, i - X.length = k + 1 := ⟨i - X.length - 1, by omega⟩
    rw [hk, List.getElem?_cons_succ, List.getElem?_cons_succ]
/-- may blocks f and f + 1 become one -/
def mayM (b : Int) (LL : List (List Int)) (f : Nat) : Prop := f + 1 < LL.length ∧ (((nthA LL f).length + (nthA LL (f + 1)).length : Nat) : Int) ≤ b
section
variable {b : Int} {X Y : List (List Int)} {r l : List Int} {q p : Nat} (hX : X.length = q) (hl : r.eraseIdx p = l) (hl0 : l ≠ []) (h1 : ¬ (b + 1) / 2 ≤ (l.length : Int))
include hX hl hl0 h1
theorem takeAt_m1 (h : mayM b (X ++ l :: Y) q) : takeAt b (X ++ r :: Y) q p = mergeAt (X ++ l :: Y) q := by
  have e0 : nthA (X ++ r :: Y) q = r := by rw [← hX]; exact nthA_mid _ _ _
  have e1 : nthA (X ++ l :: Y) q = l := by rw [← hX]; exact nthA_mid _ _ _
  have e2 := nthA_other X Y r l (q + 1) (by omega)
  obtain ⟨g1, g2⟩ := h
  rw [e1] at g2
  rw [takeAt_next (by rw [e0]; exact hl) hl0 h1 ⟨by simpa using g1, by rw [e2]; exact g2⟩, e2]
  unfold mergeAt
  rw [e1]
  have e3 : (X ++ r :: Y).drop (q + 2) = (X ++ l :: Y).drop (q + 2) := by rw [← hX]; simp [List.drop_append]
  have e4 : (X ++ r :: Y).take q = (X ++ l :: Y).take q := by rw [List.take_left' hX, List.take_left' hX]
  rw [e3, e4]
theorem not_m1 (h : ¬ mayM b (X ++ l :: Y) q) : ¬ (q + 1 < (X ++ r :: Y).length ∧ ((l.length + (nthA (X ++ r :: Y) (q + 1)).length : Nat) : Int) ≤ b) := fun ⟨g1, g2⟩ => by
  have e1 : nthA (X ++ l :: Y) q = l := by rw [← hX]; exact nthA_mid _ _ _
  have e2 := nthA_other X Y r l (q + 1) (by omega)
  exact h ⟨by simpa using g1, by rw [e1, ← e2]; exact g2⟩
theorem takeAt_m2 (h0 : ¬ mayM b (X ++ l :: Y) q) (f : Nat) (hf : q = f + 1) (h : mayM b (X ++ l :: Y) f) : takeAt b (X ++ r :: Y) q p = mergeAt (X ++ l :: Y) f := by
  have e0 : nthA (X ++ r :: Y) q = r := by rw [← hX]; exact nthA_mid _ _ _
  have e1 : nthA (X ++ l :: Y) (f + 1) = l := by rw [← hf, ← hX]; exact nthA_mid _ _ _
  have e2 := nthA_other X Y r l f (by omega)
  have e5 : q - 1 = f := by omega
  obtain ⟨g1, g2⟩ := h
  rw [e1] at g2
  rw [takeAt_prior (by rw [e0]; exact hl) hl0 h1 (not_m1 hX hl hl0 h1 h0) ⟨by omega, by rw [e5, e2]; exact g2⟩, e5, e2]
  unfold mergeAt
  rw [e1]
  have e3 : (X ++ r :: Y).drop (q + 1) = (X ++ l :: Y).drop (f + 2) := by
    rw [show f + 2 = q + 1 by omega, List.append_cons, List.drop_left' (by simp [hX]), List.append_cons, List.drop_left' (by simp [hX])]
  have e4 : (X ++ r :: Y).take f = (X ++ l :: Y).take f := by rw [List.take_append_of_le_length (by omega), List.take_append_of_le_length (by omega)]
  rw [e3, e4]
theorem takeAt_m3 (h0 : ¬ mayM b (X ++ l :: Y) q) (h : ∀ f, q = f + 1 → ¬ mayM b (X ++ l :: Y) f) : takeAt b (X ++ r :: Y) q p = X ++ l :: Y := by
  have e0 : nthA (X ++ r :: Y) q = r := by rw [← hX]; exact nthA_mid _ _ _
  rw [takeAt_lone (by rw [e0]; exact hl) hl0 h1 (not_m1 hX hl hl0 h1 h0) (fun ⟨g1, g2⟩ => by
    obtain ⟨f, hf⟩ : ∃ f, q = f + 1 := ⟨q - 1, by omega⟩
    have e1 : nthA (X ++ l :: Y) (f + 1) = l := by rw [← hf, ← hX]; exact nthA_mid _ _ _
    have e2 := nthA_other X Y r l f (by omega)
    have e5 : q - 1 = f := by omega
    exact h f hf ⟨by rw [List.length_append, List.length_cons]; omega, by rw [e1, ← e2, ← e5]; exact g2⟩)]
  rw [List.take_left' hX]
  have e3 : (X ++ r :: Y).drop (q + 1) = Y := by rw [List.append_cons]; exact List.drop_left' (by simp [hX])
  rw [e3]
end
/-- how remove ends -/
def RemPost (b : Int) (base : Nat) (RR : List Row) (index : Nat) (w : World) (e : Ending) (w' : World) : Prop :=
  ∃ v' RR', e = .returned (.tuple #[v', .int .i64 (nthI (RR.map Row.l).flatten index)]) ∧ OwnA w' base v' RR' ∧ (∀ r ∈ RR', TightB w' base r) ∧ RR'.map Row.l = remF b (RR.map Row.l) index ∧ Below base w w'

set_option maxHeartbeats 4000000 in
theorem remove_any (b : Int) (hb : roomB b = true) (base g cap : Nat) (RR : List Row) (index : Nat) (w : World) (hown : OwnA w base (.slice (some ⟨g, 0, none⟩) RR.length cap) RR) (hT : ∀ r ∈ RR, TightB w base r) (hbase : base ≤ w.heap.size) (hi : index < (RR.map Row.l).flatten.length)
    (hblk : BlocksOk b (RR.map Row.l)) (ht : (RR.map Row.l).flatten.length ≤ 600) :
    Calls Try.prog 56 #[.int .i64 b, .slice (some ⟨g, 0, none⟩) RR.length cap, .int .i64 index] w (RemPost b base RR index w) := by
  have hne : ∀ l ∈ RR.map Row.l, l ≠ [] := fun l hl => (hblk l hl).1
  have hA := hown.slA
  have hlen : (RR.map Row.l).length = RR.length := List.length_map ..
  have hll := len_le_flat _ hne
  have hgl : g < w.heap.size := (hown.out.lt g rfl).2
  obtain ⟨q, hq⟩ : ∃ q, (locQ (RR.map Row.l) index).1 = q := ⟨_, rfl⟩
  obtain ⟨p, hp⟩ : ∃ p, (locQ (RR.map Row.l) index).2 = p := ⟨_, rfl⟩
  obtain ⟨key, hk⟩ : ∃ key, nthI (RR.map Row.l).flatten index = key := ⟨_, rfl⟩
  have hloc := locQ_lt _ _ hi
  rw [hq, hp] at hloc
  have Hq := Lib.hid hq
  have Hp := Lib.hid hp
  have Hk := Lib.hid hk
  clear hq hp hk
  refine calls_of_wpAt Try.func56 rfl ?_
  simp only [Try.ntmps56, List.size_toArray, List.length_cons, List.length_nil, Nat.reduceAdd, Nat.reduceSub, Array.replicate_succ, Array.replicate_zero, List.push_toArray, List.append_toArray, List.nil_append, List.cons_append]
  refine wpAt_seq_k (fun K hK => ?_)
  go_wp2
  refine wpAt_seq_k (fun K hK => ?_)
  go_wp2
  obtain ⟨W1, hW1⟩ : ∃ W1, (w.alloc (.cells #[.int .i64 index] 3)).alloc (.cells #[.int .i64 0, .int .i64 0, .int .i64 0, .int .i64 0] 62) = W1 := ⟨_, rfl⟩
  have b5 : Boxed W1 w.heap.size 3 (.int .i64 index) := by rw [← hW1]; exact (Boxed.new _ _ _).alloc _
  have b8 : AtB W1 (w.heap.size + 1) 0 0 0 0 := by
    rw [← hW1]
    have := World.alloc_heap_new (w.alloc (.cells #[.int .i64 index] 3)) (.cells #[.int .i64 0, .int .i64 0, .int .i64 0, .int .i64 0] 62)
    rw [World.size_alloc] at this
    exact this
  have hx1 : Ext w W1 := by rw [← hW1]; exact ((Ext.refl w).alloc _).alloc _
  have hz1 : W1.heap.size = w.heap.size + 2 := by rw [← hW1]; simp only [World.size_alloc]
  try rw [hW1]
  have HZ1 := Lib.hid hz1
  clear hW1 hz1
  refine wpAt_seq ?_
  refine wpAt_seq_k (fun K hK => ?_)
  go_wp2_with (go_at_call 49; refine (keys_any _ _ _ _).mono ?_; rintro e w3 ⟨rfl, rfl⟩)
  obtain ⟨W2, hW2⟩ : ∃ W2, W1.alloc (.cells #[.slice (some ⟨g, 0, none⟩) RR.length cap] 24) = W2 := ⟨_, rfl⟩
  have hC : Boxed W2 W1.heap.size 24 (.slice (some ⟨g, 0, none⟩) RR.length cap) := by rw [← hW2]; exact Boxed.new _ _ _
  have hxa : Ext W1 W2 := by rw [← hW2]; exact (Ext.refl _).alloc _
  have hz2 : W2.heap.size = W1.heap.size + 1 := by rw [← hW2, World.size_alloc]
  have HC : Hid (W1.heap.size = w.heap.size + 2 ∧ W2.heap.size = W1.heap.size + 1 ∧ g < w.heap.size) := Lib.hid ⟨HZ1.out, hz2, hgl⟩
  rw [hW2]
  replace b5 : Boxed W2 _ _ _ := hxa.heap b5
  replace b8 : AtB W2 _ _ _ _ _ := hxa.heap b8
  have hx := hx1.trans hxa
  clear hW2 hxa hz2 HZ1 hx1
  generalize W1.heap.size = cc at *
  apply wpAt_to (F := fun W => AtB W (w.heap.size + 1) index q p key ∧ Ext w W ∧ W.heap[W2.heap.size]? = some (.deferred (some [])))
  case h =>
    refine wpAt_block ?_
    refine wpAt_rangeFunc (hf := Try.func56) (gf := 65) (lb := #[.pointer (some ⟨cc, 0, none⟩)]) rfl (enters_of Try.func65 (by kernel_rfl) rfl)
      (keys_seq cc (some ⟨g, 0, none⟩) cap (fun i => some ⟨(nthR RR i).h, 0, none⟩) (fun i => (nthR RR i).c) (RR.map Row.l) (by omega) (by omega) hne) (fun _ => rfl)
      (fun i W => (Boxed W w.heap.size 3 (.int .i64 index) ∧ AtB W (w.heap.size + 1) 0 0 0 0 ∧ Boxed W cc 24 (.slice (some ⟨g, 0, none⟩) RR.length cap)) ∧ Ext w W ∧ i ≤ index)
      (fun i c W => c = .exit 0 ∧ AtB W (w.heap.size + 1) index q p key ∧ Ext w W)
      (fun _ _ _ => False)
      (fun i A' B' ⟨⟨h1, h2, h3⟩, h4, h5⟩ hx => ⟨⟨hx.heap h1, hx.heap h2, hx.heap h3⟩, h4.trans hx, h5⟩)
      (fun i c A' B' ⟨h1, h2, h3⟩ hx => ⟨h1, hx.heap h2, h3.trans hx⟩)
      (fun i A' B' ⟨⟨h1, h2, h3⟩, h4, h5⟩ hx => by
        obtain ⟨y1, y2, y3⟩ := HC.out
        exact ⟨⟨hx.heap h1 (by omega), hx.heap h2 (by omega), hx.heap h3 (by omega)⟩, Upd.ext h4 hx (by omega), h5⟩)
      (fun i c A' B' ⟨h1, h2, h3⟩ hx => by
        obtain ⟨y1, y2, y3⟩ := HC.out
        exact ⟨h1, hx.heap h2 (by omega), Upd.ext h3 hx (by omega)⟩)
      (fun i A' ⟨⟨h1, h2, h3⟩, h4, h5⟩ => ⟨by rw [hlen]; exact h3.cell, hA.ext h4⟩)
      ⟨⟨b5, b8, hC⟩, hx, Nat.zero_le _⟩ ?round ?done ?stop (fun _ _ _ _ h _ => h.elim)
    case round =>
      rintro i W ⟨⟨h1, h2, h3⟩, h4, h5⟩ hW hlt
      have hXY : i = index → (locQ (RR.map Row.l) i).1 = q ∧ (locQ (RR.map Row.l) i).2 = p ∧ nthI (RR.map Row.l).flatten i = key := fun h => by rw [h]; exact ⟨Hq.out, Hp.out, Hk.out⟩
      simp only [atV]
      generalize (locQ (RR.map Row.l) i).1 = X at *
      generalize (locQ (RR.map Row.l) i).2 = Y at *
      generalize nthI (RR.map Row.l).flatten i = Z at *
      have hxa : Ext W (W.alloc (.cells #[.int .i64 i, .int .i64 X, .int .i64 Y, .int .i64 Z] 62)) := (Ext.refl W).alloc _
      have hn5 : AtB (W.alloc (.cells #[.int .i64 i, .int .i64 X, .int .i64 Y, .int .i64 Z] 62)) W.heap.size i X Y Z := World.alloc_heap_new _ _
      gi_wp2
      refine ⟨hxa.block (by omega), hxa.block (by omega), ?_⟩
      intro W3 hu3 hs3
      obtain ⟨y1, y2, y3⟩ := HC.out
      replace hn5 : AtB W3 _ _ _ _ _ := hu3.heap hn5 (by omega)
      have k1 : Boxed W3 _ _ _ := hu3.heap (hxa.heap h1) (by omega)
      have k2 : AtB W3 _ _ _ _ _ := hu3.heap (hxa.heap h2) (by omega)
      have k3 : Boxed W3 _ _ _ := hu3.heap (hxa.heap h3) (by omega)
      have k4 := Upd.ext (h4.trans hxa) hu3 (by omega)
      have hxx : W3.heap.size = W.heap.size + 1 := by rw [hs3, World.size_alloc]
      have HE : Hid (W2.heap.size + 2 ≤ W.heap.size ∧ W.heap.size < W3.heap.size) := Lib.hid ⟨hW, by omega⟩
      clear hu3 hs3 hxa hW hxx y1 y2 y3 h1 h2 h3 h4
      generalize W.heap.size = E at *
      have k0 := k1.cell
      have e0 : W3.cell? ⟨E, 0, none⟩ = some (.int .i64 i) := by unfold AtB at hn5; simp [World.cell?, hn5]
      have e1 := hn5.c1
      have e2 := hn5.c2
      have e3 := hn5.c3
      by_cases h : i = index
      · obtain ⟨rfl, rfl, rfl⟩ := hXY h
        subst h
        have m0 : W3.cell? ⟨w.heap.size + 1, 0, none⟩ = some (.int .i64 0) := by unfold AtB at k2; simp [World.cell?, k2]
        have m1 := k2.c1
        have m2 := k2.c2
        have m3 := k2.c3
        have f0 : W3.frozen? ⟨w.heap.size + 1, 0, none⟩ = false := by unfold AtB at k2; simp [World.frozen?, k2]
        have f1 : W3.frozen? ⟨w.heap.size + 1, 1, none⟩ = false := by unfold AtB at k2; simp [World.frozen?, k2]
        have f2 : W3.frozen? ⟨w.heap.size + 1, 2, none⟩ = false := by unfold AtB at k2; simp [World.frozen?, k2]
        have f3 : W3.frozen? ⟨w.heap.size + 1, 3, none⟩ = false := by unfold AtB at k2; simp [World.frozen?, k2]
        obtain ⟨x1, x2⟩ := HE.out
        obtain ⟨y1, y2, y3⟩ := HC.out
        have hW4 : ∃ W4, (((W3.setCell ⟨w.heap.size + 1, 0, none⟩ (.int .i64 i)).setCell ⟨w.heap.size + 1, 1, none⟩ (.int .i64 X)).setCell ⟨w.heap.size + 1, 2, none⟩ (.int .i64 Y)).setCell ⟨w.heap.size + 1, 3, none⟩ (.int .i64 Z) = W4 ∧ AtB W4 (w.heap.size + 1) i X Y Z ∧ Ext w W4 ∧ ∀ k, k ≠ w.heap.size + 1 → W4.heap[k]? = W3.heap[k]? := by
          refine ⟨_, rfl, ?_, (((k4.setCell (by simp) _).setCell (by simp) _).setCell (by simp) _).setCell (by simp) _, fun k hk => ?_⟩
          · unfold AtB at k2 ⊢
            simp [World.setCell, Array.getElem?_modify, k2]
          · exact (Below.heap_setCell _ _ _ _ hk).trans ((Below.heap_setCell _ _ _ _ hk).trans ((Below.heap_setCell _ _ _ _ hk).trans (Below.heap_setCell _ _ _ _ hk)))
        obtain ⟨W4, hW4, hA4, hx4, hk4⟩ := hW4
        clear x1 x2 y1 y2 y3
        gi_wp2
        obtain ⟨x1, x2⟩ := HE.out
        obtain ⟨y1, y2, y3⟩ := HC.out
        exact ⟨hk4 _ (by omega), hk4 _ (by omega), rfl, hA4, hx4⟩
      · have hd : ((i : Int) == index) = false := by simp; omega
        gi_wp2
        exact ⟨rfl, rfl, ⟨k1, k2, k3⟩, k4, by omega⟩
    case done =>
      rintro W ⟨_, _, h3⟩ hD
      omega
    case stop =>
      rintro i c W hlt ⟨rfl, h1, h2⟩ hD
      go_wp2
      exact ⟨trivial, rfl, h1, h2, hD⟩
  case hm =>
    rintro W ⟨hB, hX, hD⟩
    obtain ⟨hq, hp, hqp⟩ := hloc
    rw [hlen] at hq
    rw [nthA_map RR q hq] at hp
    have hOW := hown.ext hX
    have hTW : ∀ r ∈ RR, TightB W base r := fun r hr => (hT r hr).ext hX
    have hsp := splitR hq
    have hA1 : (RR.take q).length = q := by rw [List.length_take]; omega
    have hcq : W.cell? ⟨g, q, none⟩ = some (.slice (some ⟨(nthR RR q).h, 0, none⟩) (nthR RR q).l.length (nthR RR q).c) := by
      obtain ⟨b1, o1, e1, c1⟩ := (hA.ext hX).at_ q (by omega)
      simp only [Option.some.injEq, Addr.mk.injEq, and_true] at e1
      obtain ⟨rfl, rfl⟩ := e1
      rw [Nat.zero_add, nthA_map RR q hq] at c1
      exact c1
    have hrg : (nthR RR q).h ≠ g := fun e => hOW.far _ (nthR_mem hq) (by rw [e]; rfl)
    have hrw : (nthR RR q).h < w.heap.size := hown.lt (nthR_mem hq)
    have hTr := hTW _ (nthR_mem hq)
    have hrl : (nthR RR q).l.length ≤ 600 := by
      have h1 := lenT_succ (LL := RR.map Row.l) (k := q) (by omega)
      have h2 := lenT_le (RR.map Row.l) (q + 1)
      rw [nthA_map RR q hq] at h1
      omega
    obtain ⟨r, hr⟩ : ∃ r, nthR RR q = r := ⟨_, rfl⟩
    obtain ⟨A1, hA'⟩ : ∃ A1, RR.take q = A1 := ⟨_, rfl⟩
    obtain ⟨B1, hB'⟩ : ∃ B1, RR.drop (q + 1) = B1 := ⟨_, rfl⟩
    rw [hr, hA', hB'] at hsp
    rw [hA'] at hA1
    rw [hr] at hcq hrg hrw hTr hrl hp
    obtain ⟨m, hm⟩ : ∃ m, r.l.length = m + 1 := ⟨r.l.length - 1, by omega⟩
    rw [hm] at hcq
    have hdel : ∀ Wd, Ext W Wd → Calls Try.prog 68 #[.slice (some ⟨r.h, 0, none⟩) (m + 1) r.c, .int .i64 p, .int .i64 ((p : Int) + 1)] Wd fun e w' => e = .returned (.slice (some ⟨r.h, 0, none⟩) m r.c) ∧ TightB w' base ⟨r.h, r.c, r.l.eraseIdx p⟩ ∧ Upd Wd r.h w' := fun Wd hd => by
      have e1 := intVs_length r.l
      have h1 := hTr.ext hd
      unfold TightB Row.v at h1
      have h2 := deleteI (intVs r.l) r.h r.c base p Wd (by omega) (intVs_one _) (by omega) (by rw [e1]; exact h1)
      rw [e1, hm] at h2
      refine h2.mono ?_
      rintro e w' ⟨rfl, ho, hu⟩
      refine ⟨rfl, ?_, hu⟩
      unfold TightB Row.v
      have e2 : (r.l.eraseIdx p).length = m := by rw [List.length_eraseIdx, if_pos (by omega)]; omega
      have e3 : (intVs r.l).eraseIdx p = intVs (r.l.eraseIdx p) := by simp [intVs, List.eraseIdx_eq_take_drop_succ, List.map_take, List.map_drop]
      simp only [e2]
      rw [← e3]
      exact ho
    have Hsp := Lib.hid hsp
    have HA1 := Lib.hid hA1
    have Hm := Lib.hid hm
    have c1 := hB.c1
    have c2 := hB.c2
    have qlt : (q : Int) < RR.length := by omega
    have pw : IntKind.i64.wrap ((p : Int) + 1) = (p : Int) + 1 := IntWalk.i64_in _ ⟨by omega, by omega⟩
    have n1 : w.heap.size + 1 ≠ r.h := by omega
    have n2 : w.heap.size + 1 ≠ g := by omega
    have f1 : W.frozen? ⟨g, q, none⟩ = false := hOW.out.frozenAt _
    clear hsp hA1 hm hr hA' hB'
    refine wpAt_seq_k (fun K hK => ?_)
    refine wp_region_noPanic ?_
    refine wp_region_F (fun w' => w'.cell? ⟨w.heap.size + 1, 1, none⟩ = some (.int .i64 q) ∧ w'.cell? ⟨w.heap.size + 1, 2, none⟩ = some (.int .i64 p) ∧ w'.cell? ⟨g, q, none⟩ = some (.slice (some ⟨r.h, 0, none⟩) (m + 1) r.c)) 15 (by kernel_rfl) ?_
    have hc0 := (⟨c1, c2, hcq⟩ : W.cell? ⟨w.heap.size + 1, 1, none⟩ = some (.int .i64 q) ∧ W.cell? ⟨w.heap.size + 1, 2, none⟩ = some (.int .i64 p) ∧ W.cell? ⟨g, q, none⟩ = some (.slice (some ⟨r.h, 0, none⟩) (m + 1) r.c))
    refine wpAnyF_take (i := 0) (v := .slice (some ⟨g, 0, none⟩) RR.length cap) (fuel := 15) rfl (by kernel_rfl) (by kernel_rfl) (by kernel_rfl) (by kernel_rfl) (by kernel_rfl) rfl (fun _ _ _ h => h) (.inl ⟨rfl, fun W hS => by obtain ⟨e1, e2, e3⟩ := hS; go_simp⟩) hc0 ?_
    refine wpAnyF_take (i := 1) (v := .pointer (some ⟨w.heap.size + 1, 1, none⟩)) (fuel := 14) rfl (by kernel_rfl) (by kernel_rfl) (by kernel_rfl) (by kernel_rfl) (by kernel_rfl) rfl (fun _ _ _ h => h) (.inl ⟨rfl, fun W hS => by obtain ⟨e1, e2, e3⟩ := hS; go_simp⟩) hc0 ?_
    refine wpAnyF_take (i := 2) (v := .int .i64 q) (fuel := 13) rfl (by kernel_rfl) (by kernel_rfl) (by kernel_rfl) (by kernel_rfl) (by kernel_rfl) rfl (fun _ _ _ h => h) (.inl ⟨rfl, fun W hS => by obtain ⟨e1, e2, e3⟩ := hS; go_simp⟩) hc0 ?_
    refine wpAnyF_take (i := 3) (v := .slice (some ⟨g, 0, none⟩) RR.length cap) (fuel := 12) rfl (by kernel_rfl) (by kernel_rfl) (by kernel_rfl) (by kernel_rfl) (by kernel_rfl) rfl (fun _ _ _ h => h) (.inl ⟨rfl, fun W hS => by obtain ⟨e1, e2, e3⟩ := hS; go_simp⟩) hc0 ?_
    refine wpAnyF_take (i := 4) (v := .pointer (some ⟨w.heap.size + 1, 1, none⟩)) (fuel := 11) rfl (by kernel_rfl) (by kernel_rfl) (by kernel_rfl) (by kernel_rfl) (by kernel_rfl) rfl (fun _ _ _ h => h) (.inl ⟨rfl, fun W hS => by obtain ⟨e1, e2, e3⟩ := hS; go_simp⟩) hc0 ?_
    refine wpAnyF_take (i := 5) (v := .int .i64 q) (fuel := 10) rfl (by kernel_rfl) (by kernel_rfl) (by kernel_rfl) (by kernel_rfl) (by kernel_rfl) rfl (fun _ _ _ h => h) (.inl ⟨rfl, fun W hS => by obtain ⟨e1, e2, e3⟩ := hS; go_simp⟩) hc0 ?_
    refine wpAnyF_take (i := 6) (v := .pointer (some ⟨g, q, none⟩)) (fuel := 9) rfl (by kernel_rfl) (by kernel_rfl) (by kernel_rfl) (by kernel_rfl) (by kernel_rfl) rfl (fun _ _ _ h => h) (.inl ⟨rfl, fun W hS => by obtain ⟨e1, e2, e3⟩ := hS; go_simp⟩) hc0 ?_
    refine wpAnyF_take (i := 7) (v := .slice (some ⟨r.h, 0, none⟩) (m + 1) r.c) (fuel := 8) rfl (by kernel_rfl) (by kernel_rfl) (by kernel_rfl) (by kernel_rfl) (by kernel_rfl) rfl (fun _ _ _ h => h) (.inl ⟨rfl, fun W hS => by obtain ⟨e1, e2, e3⟩ := hS; go_simp⟩) hc0 ?_
    refine wpAnyF_take (i := 8) (v := .pointer (some ⟨w.heap.size + 1, 2, none⟩)) (fuel := 7) rfl (by kernel_rfl) (by kernel_rfl) (by kernel_rfl) (by kernel_rfl) (by kernel_rfl) rfl (fun _ _ _ h => h) (.inl ⟨rfl, fun W hS => by obtain ⟨e1, e2, e3⟩ := hS; go_simp⟩) hc0 ?_
    refine wpAnyF_take (i := 9) (v := .int .i64 p) (fuel := 6) rfl (by kernel_rfl) (by kernel_rfl) (by kernel_rfl) (by kernel_rfl) (by kernel_rfl) rfl (fun _ _ _ h => h) (.inl ⟨rfl, fun W hS => by obtain ⟨e1, e2, e3⟩ := hS; go_simp⟩) hc0 ?_
    refine wpAnyF_take (i := 10) (v := .pointer (some ⟨w.heap.size + 1, 2, none⟩)) (fuel := 5) rfl (by kernel_rfl) (by kernel_rfl) (by kernel_rfl) (by kernel_rfl) (by kernel_rfl) rfl (fun _ _ _ h => h) (.inl ⟨rfl, fun W hS => by obtain ⟨e1, e2, e3⟩ := hS; go_simp⟩) hc0 ?_
    refine wpAnyF_take (i := 11) (v := .int .i64 p) (fuel := 4) rfl (by kernel_rfl) (by kernel_rfl) (by kernel_rfl) (by kernel_rfl) (by kernel_rfl) rfl (fun _ _ _ h => h) (.inl ⟨rfl, fun W hS => by obtain ⟨e1, e2, e3⟩ := hS; go_simp⟩) hc0 ?_
    refine wpAnyF_take (i := 12) (v := .int .i64 ((p : Int) + 1)) (fuel := 3) rfl (by kernel_rfl) (by kernel_rfl) (by kernel_rfl) (by kernel_rfl) (by kernel_rfl) rfl (fun _ _ _ h => h) (.inl ⟨rfl, fun W hS => by obtain ⟨e1, e2, e3⟩ := hS; go_simp⟩) hc0 ?_
    refine wpAnyF_one (i := 13) (fuel := 2) rfl (by kernel_rfl) rfl fun K' hK' => ?_
    go_simp
    refine (hdel _ (by exact (Ext.refl _).drew)).mono ?_
    rintro e w3 ⟨rfl, hT3, hu3⟩
    have x1 := hu3.cell (((Ext.refl W).drew).cell c1) n1
    have x2 := hu3.cell (((Ext.refl W).drew).cell c2) n1
    have x3 := hu3.cell (((Ext.refl W).drew).cell hcq) (Ne.symm hrg)
    have x4 := grown_frozen hu3 (((Ext.refl W).drew).cell hcq) (((Ext.refl W).drew).frozen hcq f1) (fun e => hrg (by injection e with e; exact e.symm))
    refine hK' _ _ (fun _ => ⟨x1, x2, x3⟩) ?_
    clear hK' K'
    refine wpAnyF_one (i := 14) (fuel := 1) rfl (by kernel_rfl) rfl fun K' hK' => ?_
    go_simp
    refine hK' _ _ (fun _ => ⟨x1, x2, x3⟩) ?_
    clear hK' K'
    refine wpAnyF_one (i := 15) (fuel := 0) rfl (by kernel_rfl) rfl fun K' hK' => ?_
    go_simp
    refine hK' _ _ (fun h => by simp at h) ?_
    clear hK' K'
    refine wpAnyF_done (by kernel_rfl) ?_ 0
    refine NoPanic.normal (hK _ _ ?_)
    clear hK K
    obtain ⟨y1, y2, y3⟩ := HC.out
    have hel : (r.l.eraseIdx p).length = m := by have := Hm.out; rw [List.length_eraseIdx, if_pos (by omega)]; omega
    rw [Hsp.out] at hOW hTW
    have hlq : (A1 ++ r :: B1).length = RR.length := by rw [Hsp.out]
    obtain ⟨hO4, hT4⟩ := set_tight (r' := ⟨r.h, r.c, r.l.eraseIdx p⟩) hOW hTW (((Ext.refl W).drew)) hu3 hT3 rfl
    rw [HA1.out] at hO4 hT4
    simp only [Row.v, hel] at hO4 hT4
    rw [hlq] at hO4
    have hxs := hX.size
    have hDl : W2.heap.size < W.heap.size := (Array.getElem?_eq_some_iff.1 hD).1
    have hB4 : AtB (w3.setCell ⟨g, q, none⟩ (.slice (some ⟨r.h, 0, none⟩) m r.c)) (w.heap.size + 1) index q p key := (Below.heap_setCell _ _ _ _ n2).trans (hu3.heap hB n1)
    have hD4 : (w3.setCell ⟨g, q, none⟩ (.slice (some ⟨r.h, 0, none⟩) m r.c)).heap[W2.heap.size]? = some (.deferred (some [])) := (Below.heap_setCell _ _ _ _ (by simp; omega)).trans (hu3.heap hD (by omega))
    have hbr : base ≤ r.h := hTr.inB.1
    have hbg : base ≤ g := (hown.out.lt g rfl).1
    have hBel : Below base w (w3.setCell ⟨g, q, none⟩ (.slice (some ⟨r.h, 0, none⟩) m r.c)) := Below.setCell (Below.grown (Below.mono (hX.drew) hbase) hu3 (by have : W.drew.heap.size = W.heap.size := rfl; omega) (fun i hi => by injection hi with hi; omega)) hbg _
    have hcell4 : (w3.setCell ⟨g, q, none⟩ (.slice (some ⟨r.h, 0, none⟩) m r.c)).cell? ⟨g, q, none⟩ = some (.slice (some ⟨r.h, 0, none⟩) m r.c) := World.cell?_setCell_same _ _ _ x3
    have hf4 : (w3.setCell ⟨g, q, none⟩ (.slice (some ⟨r.h, 0, none⟩) m r.c)).frozen? ⟨g, q, none⟩ = false := by rw [World.frozen?_setCell]; exact x4
    have hgr : g < W2.heap.size ∧ W2.heap.size ≠ w.heap.size + 1 := ⟨by omega, by omega⟩
    clear hu3 hT3 x1 x2 x3 x4 hc0 hcq c1 c2 f1 hdel hOW hTW hB hD hDl hxs hX b5 b8 hC hx hbr y1 y2 y3
    generalize w3.setCell ⟨g, q, none⟩ (.slice (some ⟨r.h, 0, none⟩) m r.c) = W4 at *
    have fin : ∀ W5 v' RR'', OwnA W5 base v' RR'' → (∀ x ∈ RR'', TightB W5 base x) → RR''.map Row.l = remF b (RR.map Row.l) index → Below base w W5 → W5.heap[W2.heap.size]? = some (.deferred (some [])) → RemPost b base RR index w (.returned (.tuple #[v', .int .i64 key])) (W5.putObj W2.heap.size (.deferred none)) := fun W5 v' RR'' g1 g2 g3 g4 g5 => by
      have hDc : ∀ cs t fr, Obj.deferred (some []) ≠ .cells cs t fr := fun cs t fr e => by cases e
      refine ⟨v', RR'', by rw [Hk.out], g1.putD (o' := .deferred none) g5 hDc, fun x hx => (g2 x hx).kept (grownBy_putObj' _ _ _) ((g1.ne g5 hDc).2 x hx), g3, Below.grown g4 (grownBy_putObj' _ _ _) (Nat.le_trans hbase g4.size) (fun i hi => by injection hi with hi; have := HC.out; omega)⟩
    have hres : remF b (RR.map Row.l) index = takeAt b (A1.map Row.l ++ r.l :: B1.map Row.l) q p := by
      unfold remF
      rw [Hq.out, Hp.out, Hsp.out, List.map_append, List.map_cons]
    have hml : (A1.map Row.l).length = q := by rw [List.length_map, HA1.out]
    have c1 := hB4.c1
    have c3 := hB4.c3
    have hn0 : nthA (A1.map Row.l ++ r.l :: B1.map Row.l) q = r.l := by rw [← hml]; exact nthA_mid _ _ _
    have ht0 : (A1.map Row.l ++ r.l :: B1.map Row.l).take q = A1.map Row.l := List.take_left' hml
    have hd0 : (A1.map Row.l ++ r.l :: B1.map Row.l).drop (q + 1) = B1.map Row.l := by rw [List.append_cons]; exact List.drop_left' (by simp [hml])
    have hlen4 : (A1 ++ (⟨r.h, r.c, r.l.eraseIdx p⟩ : Row) :: B1).length = RR.length := by rw [← hlq]; simp
    have hle4 : RR.length ≤ 10000 := by omega
    by_cases h0 : m = 0
    · have hd1 := fun Wd (hd : Ext W4 Wd) => del_row hO4 hT4 hlen4.symm HA1.out hle4 hd
      have d1 : ((m : Int) == 0) = true := by simp [h0]
      have q1 : IntKind.i64.wrap ((q : Int) + 1) = (q : Int) + 1 := IntWalk.i64_in _ ⟨by omega, by omega⟩
      have hr0 : remF b (RR.map Row.l) index = (A1 ++ B1).map Row.l := by
        rw [hres]
        rw [takeAt_nil (by rw [hn0, ← List.length_eq_zero_iff, hel, h0]), ht0, hd0, List.map_append]
      have Hr0 := Lib.hid hr0
      have HF := Lib.hid fin
      have HD4 := Lib.hid hD4
      have HB4 := Lib.hid hBel
      have Hgr := Lib.hid hgr
      clear hr0 fin hD4 hBel hgr hO4 hT4 hres hml hB4 hi hblk ht hne hlen hll hown hT hA h0
      refine wpAt_of_wp ?_
      go_wp2
      go_region_held3 (fun w' => w'.cell? ⟨w.heap.size + 1, 1, none⟩ = some (.int .i64 q) ∧ w'.cell? ⟨w.heap.size + 1, 3, none⟩ = some (.int .i64 key)) (first | go_keep | exact ⟨x1, x3⟩)
        (first
          | (go_at_call 69; refine (hd1 _ (by exact (Ext.refl _).drew)).mono ?_; rintro e w5 ⟨rfl, hO5, hT5, hu5⟩; have x1 := hu5.cell (((Ext.refl W4).drew).cell c1) n2; have x3 := hu5.cell (((Ext.refl W4).drew).cell c3) n2)
          | fail)
      all_goals
        go_wp2
        have hD5 : w5.heap[W2.heap.size]? = some (.deferred (some [])) := by
          have hg := Hgr.out.1
          exact hu5.heap (a := W4.drew) HD4.out (by omega)
        refine ⟨by simp, .inl ⟨_, _, rfl, run_takeDeferred (hD5), ?_⟩⟩
        exact ⟨.tuple #[.slice (some ⟨g, 0, none⟩) (RR.length - 1) cap, .int .i64 key], by simp [results, Try.results56, go_sem], HF.out _ _ _ hO5 hT5 Hr0.out.symm (Below.grown (Below.drew HB4.out) hu5 (Nat.le_trans hbase HB4.out.size) (fun i hi => by injection hi with hi; omega)) (hD5)⟩
    · have hne0 : r.l.eraseIdx p ≠ [] := fun e => by rw [e] at hel; simp at hel; omega
      have hb2 := roomB_t hb
      have d1 : ((m : Int) == 0) = false := by simp; omega
      have b1 : IntKind.i64.wrap (b + 1) = b + 1 := IntWalk.i64_in _ ⟨by omega, by omega⟩
      have hhalf := fun W => half_any (b + 1) W (by omega) (by omega)
      by_cases h1 : (b + 1) / 2 ≤ (m : Int)
      · have hr0 : remF b (RR.map Row.l) index = (A1 ++ (⟨r.h, r.c, r.l.eraseIdx p⟩ : Row) :: B1).map Row.l := by
          rw [hres, takeAt_big (l := r.l.eraseIdx p) (by rw [hn0]) hne0 (by rw [hel]; exact h1), ht0, hd0, List.map_append, List.map_cons]
        have Hr0 := Lib.hid hr0
        have HF := Lib.hid fin
        have HD4 := Lib.hid hD4
        have HB4 := Lib.hid hBel
        have Hgr := Lib.hid hgr
        clear hr0 fin hD4 hBel hgr hres hml hB4 hi hblk ht hne hlen hll hown hT hA h0 hne0
        refine wpAt_of_wp ?_
        go_wp2_with (go_at_call 61; refine (hhalf _).mono ?_; rintro e w4 ⟨rfl, rfl⟩)
        go_region_held3 (fun w' => w'.cell? ⟨w.heap.size + 1, 3, none⟩ = some (.int .i64 key)) (go_keep) (fail)
        all_goals
          go_wp2
          have hD5 : W4.drew.heap[W2.heap.size]? = some (.deferred (some [])) := HD4.out
          refine ⟨by simp, .inl ⟨_, _, rfl, run_takeDeferred hD5, ?_⟩⟩
          exact ⟨.tuple #[.slice (some ⟨g, 0, none⟩) RR.length cap, .int .i64 key], by simp [results, Try.results56, go_sem], HF.out _ _ _ (hO4.ext ((Ext.refl W4).drew)) (fun x hx => (hT4 x hx).ext ((Ext.refl W4).drew)) Hr0.out.symm (Below.drew HB4.out) hD5⟩
      · have hlL : (A1.map Row.l ++ r.l.eraseIdx p :: B1.map Row.l) = (A1 ++ (⟨r.h, r.c, r.l.eraseIdx p⟩ : Row) :: B1).map Row.l := by simp
        have hm1 := takeAt_m1 (b := b) (Y := B1.map Row.l) hml (rfl : r.l.eraseIdx p = _) hne0 (by rw [hel]; exact h1)
        have hm2 := takeAt_m2 (b := b) (Y := B1.map Row.l) hml (rfl : r.l.eraseIdx p = _) hne0 (by rw [hel]; exact h1)
        have hm3 := takeAt_m3 (b := b) (Y := B1.map Row.l) hml (rfl : r.l.eraseIdx p = _) hne0 (by rw [hel]; exact h1)
        rw [← hres, hlL] at hm1 hm2 hm3
        have hnz : ∀ x ∈ A1 ++ (⟨r.h, r.c, r.l.eraseIdx p⟩ : Row) :: B1, x.l ≠ [] := fun x hx => by
          rcases List.mem_append.1 hx with h3 | h3
          · exact hne _ (List.mem_map.2 ⟨x, by rw [Hsp.out]; simp [h3], rfl⟩)
          · rcases List.mem_cons.1 h3 with rfl | h3
            · exact hne0
            · exact hne _ (List.mem_map.2 ⟨x, by rw [Hsp.out]; simp [h3], rfl⟩)
        have hLL : ∀ x ∈ A1 ++ (⟨r.h, r.c, r.l.eraseIdx p⟩ : Row) :: B1, x.l.length ≤ 600 := fun x hx => by
          rcases List.mem_append.1 hx with h3 | h3
          · have := (hblk _ (List.mem_map.2 ⟨x, by rw [Hsp.out]; simp [h3], rfl⟩)).2; omega
          · rcases List.mem_cons.1 h3 with rfl | h3
            · simp only [hel]; omega
            · have := (hblk _ (List.mem_map.2 ⟨x, by rw [Hsp.out]; simp [h3], rfl⟩)).2; omega
        have hql : q < RR.length := hq
        generalize A1 ++ (⟨r.h, r.c, r.l.eraseIdx p⟩ : Row) :: B1 = R4 at *
        have hO4' : OwnA W4 base (.slice (some ⟨g, 0, none⟩) R4.length cap) R4 := by rw [hlen4]; exact hO4
        have hcells : ∀ i, i < RR.length → W4.cell? ⟨g, i, none⟩ = some (.slice (some ⟨(nthR R4 i).h, 0, none⟩) (nthR R4 i).l.length (nthR R4 i).c) := fun i hi => by
          have := hO4'.out.cellAt i (show i < R4.length * 1 by omega)
          rw [this]
          simp [nthR, List.getD_eq_getElem?_getD, show i < R4.length by omega, Row.v]
        obtain ⟨M, hM⟩ : ∃ M : Int, (q : Int) - 1 = M := ⟨_, rfl⟩
        have qm : IntKind.i64.wrap ((q : Int) - 1) = M := by rw [IntWalk.i64_in _ ⟨by omega, by omega⟩]; exact hM
        have i0 : ∀ w, (Instr.index 82 (.agg #[.int .i64 q, .int .i64 M]) (.int .i64 0)).run Try.prog w = .ok (.int .i64 q) w := fun _ => by kernel_rfl
        have i1 : ∀ w, (Instr.index 82 (.agg #[.int .i64 q, .int .i64 M]) (.int .i64 1)).run Try.prog w = .ok (.int .i64 M) w := fun _ => by kernel_rfl
        have HM := Lib.hid hM
        have Hm1 := Lib.hid hm1
        have Hm2 := Lib.hid hm2
        have Hm3 := Lib.hid hm3
        have HO4 := Lib.hid hO4'
        have HT4 := Lib.hid hT4
        have HF := Lib.hid fin
        have HD4 := Lib.hid hD4
        have HB4 := Lib.hid hBel
        have Hgr := Lib.hid hgr
        have Hnz := Lib.hid hnz
        have HLL := Lib.hid hLL
        have Hcl := Lib.hid hcells
        have Hlen4 := Lib.hid hlen4
        have hmb : ¬ (b + 1) / 2 ≤ (m : Int) := h1
        clear hm1 hm2 hm3 hM hO4 hO4' hT4 fin hD4 hBel hgr hnz hLL hcells hlen4 hres hml hB4 hi hblk ht hne hlen hll hown hT hA h0 hne0 hlL hn0 ht0 hd0 hel
        refine wpAt_of_wp ?_
        go_wp2_with (go_at_call 61; refine (hhalf _).mono ?_; rintro e w4 ⟨rfl, rfl⟩)
        clear hcell4
        go_loopw [67, 12, 6, 7] (fun j _ _ _ wr => LpR W4 (mayM b (R4.map Row.l) q) (∃ f, q = f + 1 ∧ mayM b (R4.map Row.l) f) j wr) (fun j _ _ _ _ => 2 - (intOf j).toNat)
        case atStart => exact ⟨0, 0, by omega, rfl, by rw [World.drewN_zero], Lib.hid (fun h => by omega), Lib.hid (fun h => by omega)⟩
        case round =>
          obtain ⟨k, n, hk, rfl, rfl, hk1, hk2⟩ := hrel
          have hxn : Ext W4 (W4.drewN n) := (Ext.refl W4).drewN n
          obtain rfl | rfl | rfl : k = 0 ∨ k = 1 ∨ k = 2 := by omega
          · by_cases hq1 : q + 1 < RR.length
            · have kx := Hcl.out q hql
              have ky := Hcl.out (q + 1) hq1
              have hb1 : (nthA (R4.map Row.l) q).length = (nthR R4 q).l.length := by rw [nthA_map R4 q (by have := Hlen4.out; omega)]
              have hb2' : (nthA (R4.map Row.l) (q + 1)).length = (nthR R4 (q + 1)).l.length := by rw [nthA_map R4 (q + 1) (by have := Hlen4.out; omega)]
              have mx : nthR R4 q ∈ R4 := nthR_mem (by have := Hlen4.out; omega)
              have my : nthR R4 (q + 1) ∈ R4 := nthR_mem (by have := Hlen4.out; omega)
              have hlx := HLL.out _ mx
              have hly := HLL.out _ my
              have f2 : (q : Int) + 1 < RR.length := by omega
              have fw : IntKind.i64.wrap ((q : Int) + 1) = (q : Int) + 1 := IntWalk.i64_in _ ⟨by omega, by omega⟩
              have fw2 : IntKind.i64.wrap ((q : Int) + 2) = (q : Int) + 2 := IntWalk.i64_in _ ⟨by omega, by omega⟩
              obtain ⟨x, hx⟩ : ∃ x, nthR R4 q = x := ⟨_, rfl⟩
              obtain ⟨y, hy⟩ : ∃ y, nthR R4 (q + 1) = y := ⟨_, rfl⟩
              rw [hx] at kx hb1 mx hlx
              rw [hy] at ky hb2' my hly
              have Hx := Lib.hid hx
              have Hy := Lib.hid hy
              have Hb1 := Lib.hid hb1
              have Hb2 := Lib.hid hb2'
              have sw : IntKind.i64.wrap ((x.l.length : Int) + y.l.length) = (x.l.length : Int) + y.l.length := IntWalk.i64_in _ ⟨by omega, by omega⟩
              clear hx hy hb1 hb2'
              by_cases hs : (x.l.length : Int) + y.l.length ≤ b
              · go_wp2
                go_quiet (fail)
                have hCC : ∀ W, Ext W4 W → W.cell? ⟨g, q, none⟩ = some (.slice (some ⟨x.h, 0, none⟩) x.l.length x.c) ∧ W.cell? ⟨g, q + 1, none⟩ = some (.slice (some ⟨y.h, 0, none⟩) y.l.length y.c) := fun W hW => ⟨hW.cell kx, hW.cell ky⟩
                have hxc : Ext W4 ((W4.drewN n).drewN nq) := ((Ext.refl W4).drewN n).drewN nq
                generalize (W4.drewN n).drewN nq = Wc at hxc ⊢
                have f0 : ¬ ((q : Int) + 1 < 0) := by omega
                have f0' : (0 : Int) ≤ (q : Int) + 1 := by omega
                have hcat := fun (Wd : World) (E : Nat) (hd : Ext W4 Wd) (hE : Wd.heap[E]? = some (.cells #[.slice (some ⟨x.h, 0, none⟩) x.l.length x.c, .slice (some ⟨y.h, 0, none⟩) y.l.length y.c] 22 (0, 0))) => cat2 (base := base) ((HT4.out x mx).ext hd).inB ((HT4.out y my).ext hd).inB hE (Hnz.out x mx) (Hnz.out y my) (by omega) (Nat.le_trans hbase (Nat.le_trans HB4.out.size hd.size))
                have hfrz : W4.frozen? ⟨g, q, none⟩ = false := HO4.out.out.frozenAt _
                go_wp2
                refine wp_region_noPanic ?_
                refine wp_region_F (fun W => W.cell? ⟨g, q, none⟩ = some (.slice (some ⟨x.h, 0, none⟩) x.l.length x.c) ∧ W.cell? ⟨g, q + 1, none⟩ = some (.slice (some ⟨y.h, 0, none⟩) y.l.length y.c)) 14 (by kernel_rfl) ?_
                have hc0 := hCC _ (hxc.drew)
                refine wpAnyF_take (i := 0) (v := .slice (some ⟨g, 0, none⟩) RR.length cap) (fuel := 14) rfl (by kernel_rfl) (by kernel_rfl) (by kernel_rfl) (by kernel_rfl) (by kernel_rfl) rfl (fun _ _ _ h => h) (.inl ⟨rfl, fun W hS => by obtain ⟨e1, e2⟩ := hS; go_simp⟩) hc0 ?_
                refine wpAnyF_take (i := 1) (v := .int .i64 q) (fuel := 13) rfl (by kernel_rfl) (by kernel_rfl) (by kernel_rfl) (by kernel_rfl) (by kernel_rfl) rfl (fun _ _ _ h => h) (.inl ⟨rfl, fun W hS => by obtain ⟨e1, e2⟩ := hS; go_simp⟩) hc0 ?_
                refine wpAnyF_take (i := 2) (v := .slice (some ⟨g, 0, none⟩) RR.length cap) (fuel := 12) rfl (by kernel_rfl) (by kernel_rfl) (by kernel_rfl) (by kernel_rfl) (by kernel_rfl) rfl (fun _ _ _ h => h) (.inl ⟨rfl, fun W hS => by obtain ⟨e1, e2⟩ := hS; go_simp⟩) hc0 ?_
                refine wpAnyF_take (i := 3) (v := .int .i64 q) (fuel := 11) rfl (by kernel_rfl) (by kernel_rfl) (by kernel_rfl) (by kernel_rfl) (by kernel_rfl) rfl (fun _ _ _ h => h) (.inl ⟨rfl, fun W hS => by obtain ⟨e1, e2⟩ := hS; go_simp⟩) hc0 ?_
                refine wpAnyF_take (i := 4) (v := .pointer (some ⟨g, q, none⟩)) (fuel := 10) rfl (by kernel_rfl) (by kernel_rfl) (by kernel_rfl) (by kernel_rfl) (by kernel_rfl) rfl (fun _ _ _ h => h) (.inl ⟨rfl, fun W hS => by obtain ⟨e1, e2⟩ := hS; go_simp⟩) hc0 ?_
                refine wpAnyF_take (i := 5) (v := .slice (some ⟨x.h, 0, none⟩) x.l.length x.c) (fuel := 9) rfl (by kernel_rfl) (by kernel_rfl) (by kernel_rfl) (by kernel_rfl) (by kernel_rfl) rfl (fun _ _ _ h => h) (.inl ⟨rfl, fun W hS => by obtain ⟨e1, e2⟩ := hS; go_simp⟩) hc0 ?_
                refine wpAnyF_take (i := 6) (v := .slice (some ⟨g, 0, none⟩) RR.length cap) (fuel := 8) rfl (by kernel_rfl) (by kernel_rfl) (by kernel_rfl) (by kernel_rfl) (by kernel_rfl) rfl (fun _ _ _ h => h) (.inl ⟨rfl, fun W hS => by obtain ⟨e1, e2⟩ := hS; go_simp⟩) hc0 ?_
                refine wpAnyF_take (i := 7) (v := .int .i64 q) (fuel := 7) rfl (by kernel_rfl) (by kernel_rfl) (by kernel_rfl) (by kernel_rfl) (by kernel_rfl) rfl (fun _ _ _ h => h) (.inl ⟨rfl, fun W hS => by obtain ⟨e1, e2⟩ := hS; go_simp⟩) hc0 ?_
                refine wpAnyF_take (i := 8) (v := .int .i64 ((q : Int) + 1)) (fuel := 6) rfl (by kernel_rfl) (by kernel_rfl) (by kernel_rfl) (by kernel_rfl) (by kernel_rfl) rfl (fun _ _ _ h => h) (.inl ⟨rfl, fun W hS => by obtain ⟨e1, e2⟩ := hS; go_simp⟩) hc0 ?_
                refine wpAnyF_take (i := 9) (v := .pointer (some ⟨g, q + 1, none⟩)) (fuel := 5) rfl (by kernel_rfl) (by kernel_rfl) (by kernel_rfl) (by kernel_rfl) (by kernel_rfl) rfl (fun _ _ _ h => h) (.inl ⟨rfl, fun W hS => by obtain ⟨e1, e2⟩ := hS; go_simp⟩) hc0 ?_
                refine wpAnyF_take (i := 10) (v := .slice (some ⟨y.h, 0, none⟩) y.l.length y.c) (fuel := 4) rfl (by kernel_rfl) (by kernel_rfl) (by kernel_rfl) (by kernel_rfl) (by kernel_rfl) rfl (fun _ _ _ h => h) (.inl ⟨rfl, fun W hS => by obtain ⟨e1, e2⟩ := hS; go_simp⟩) hc0 ?_
                refine wpAnyF_one (i := 11) (fuel := 3) rfl (by kernel_rfl) rfl fun K' hK' => ?_
                go_simp
                refine hK' _ _ (fun _ => hCC _ ((hxc.alloc _).drew)) ?_
                clear hK' K'
                refine wpAnyF_one (i := 12) (fuel := 2) rfl (by kernel_rfl) rfl fun K' hK' => ?_
                go_simp
                refine (hcat _ _ (by exact (hxc.alloc _).drew) (by exact alloc_at _ _ _ (by simp))).mono ?_
                rintro e w5 ⟨gc, cc', rfl, hTc, hx5, hgc⟩
                have hx45 : Ext W4 w5 := ((hxc.alloc _).drew).trans hx5
                have hc5 := hCC _ hx45
                have hfr5 := hx45.frozen kx hfrz
                have hgc4 : W4.heap.size ≤ gc := Nat.le_trans (Ext.size ((hxc.alloc _).drew)) hgc
                refine hK' _ _ (fun _ => hc5) ?_
                clear hK' K'
                refine wpAnyF_one (i := 13) (fuel := 1) rfl (by kernel_rfl) rfl fun K' hK' => ?_
                go_simp
                refine hK' _ _ (fun _ => hc5) ?_
                clear hK' K'
                refine wpAnyF_one (i := 14) (fuel := 0) rfl (by kernel_rfl) rfl fun K' hK' => ?_
                have hc51 := hc5.1
                go_simp
                refine hK' _ _ (fun h => by simp at h) ?_
                clear hK' K'
                refine wpAnyF_done (by kernel_rfl) ?_ 0
                refine NoPanic.normal ?_
                obtain ⟨R5, hO6, hT6, hl6, hlen6, hm6⟩ := merged_rows (f := q) (gc := gc) (cc := cc') HO4.out HT4.out (by have := Hlen4.out; omega) hx45 (by rw [Hx.out, Hy.out]; exact hTc) hgc4
                rw [Hx.out, Hy.out] at hO6 hT6
                rw [Hlen4.out] at hO6 hlen6
                rw [Hy.out] at hlen6
                rw [List.length_append] at hO6 hT6
                have hD6 : (w5.setCell ⟨g, q, none⟩ (.slice (some ⟨gc, 0, none⟩) (x.l.length + y.l.length) cc')).heap[W2.heap.size]? = some (.deferred (some [])) := (Below.heap_setCell _ _ _ _ (by have := Hgr.out.1; simp only; omega)).trans (hx45.heap HD4.out)
                have hB6 : Below base w (w5.setCell ⟨g, q, none⟩ (.slice (some ⟨gc, 0, none⟩) (x.l.length + y.l.length) cc')) := Below.setCell (Below.trans HB4.out (Below.mono hx45 (Nat.le_trans hbase HB4.out.size))) (HO4.out.out.lt g rfl).1 _
                have c36 : (w5.setCell ⟨g, q, none⟩ (.slice (some ⟨gc, 0, none⟩) (x.l.length + y.l.length) cc')).cell? ⟨w.heap.size + 1, 3, none⟩ = some (.int .i64 key) := by rw [World.cell?_setCell_far _ _ _ _ (Ne.symm n2)]; exact hx45.cell c3
                have hRf : remF b (RR.map Row.l) index = mergeAt (R4.map Row.l) q := Hm1.out ⟨by rw [List.length_map, Hlen4.out]; exact hq1, by rw [Hb1.out, Hb2.out]; omega⟩
                have HRf := Lib.hid (hm6.trans hRf.symm)
                have hdl : ∀ Wd, Ext (w5.setCell ⟨g, q, none⟩ (.slice (some ⟨gc, 0, none⟩) (x.l.length + y.l.length) cc')) Wd → Calls Try.prog 69 #[.slice (some ⟨g, 0, none⟩) RR.length cap, .int .i64 ((q : Int) + 1), .int .i64 ((q : Int) + 2)] Wd fun e w' => e = .returned (.slice (some ⟨g, 0, none⟩) (RR.length - 1) cap) ∧ OwnA w' base (.slice (some ⟨g, 0, none⟩) (RR.length - 1) cap) (R5.take (q + 1) ++ R5.drop (q + 1)) ∧ (∀ x ∈ R5.take (q + 1) ++ R5.drop (q + 1), TightB w' base x) ∧ Upd Wd g w' := fun Wd hd => by
                  have h3 := del_row hO6 hT6 hlen6.symm hl6 hle4 hd
                  have e1 : ((q + 1 : Nat) : Int) = (q : Int) + 1 := by omega
                  have e2 : (q : Int) + 1 + 1 = (q : Int) + 2 := by omega
                  rw [e1, e2] at h3
                  exact h3
                clear hc5 hc51 hfr5 hO6 hT6 hl6 hlen6 hm6 hRf hTc hx5 hx45 hgc hgc4 hcat hCC hc0 kx ky hxc hfrz hxn
                generalize w5.setCell ⟨g, q, none⟩ (.slice (some ⟨gc, 0, none⟩) (x.l.length + y.l.length) cc') = W6 at *
                go_wp2
                go_region_held3 (fun w' => w'.cell? ⟨w.heap.size + 1, 3, none⟩ = some (.int .i64 key)) (first | go_keep | exact x3)
                  (first
                    | (go_at_call 69; refine (hdl _ (by exact (Ext.refl _).drew)).mono ?_; rintro e w7 ⟨rfl, hO7, hT7, hu7⟩; have x3 := hu7.cell (((Ext.refl W6).drew).cell c36) n2)
                    | fail)
                all_goals
                  go_wp2
                  have hD7 : w7.heap[W2.heap.size]? = some (.deferred (some [])) := by
                    have hg := Hgr.out.1
                    exact hu7.heap (a := W6.drew) hD6 (by omega)
                  refine ⟨by simp, .inl ⟨_, _, rfl, run_takeDeferred hD7, ?_⟩⟩
                  exact ⟨.tuple #[.slice (some ⟨g, 0, none⟩) (RR.length - 1) cap, .int .i64 key], by simp [results, Try.results56, go_sem], HF.out _ _ _ hO7 hT7 HRf.out (Below.grown (Below.drew hB6) hu7 (Nat.le_trans hbase hB6.size) (fun i hi => by injection hi with hi; have := (hO7.out.lt g rfl).1; omega)) hD7⟩
              · have Hno : Hid (1 ≤ 1 → ¬ mayM b (R4.map Row.l) q) := Lib.hid (fun _ hh => by
                  obtain ⟨_, g2⟩ := hh
                  rw [Hb1.out, Hb2.out] at g2
                  omega)
                go_wp2
                go_quiet (fail)
                go_wp2
                go_roundw
                case rel => exact ⟨1, _, by omega, by go_num, rfl, Hno, Lib.hid (fun h => by omega)⟩
                case measure => simp [intOf]
            · have Hno : Hid (1 ≤ 1 → ¬ mayM b (R4.map Row.l) q) := Lib.hid (fun _ hh => by
                obtain ⟨g1, _⟩ := hh
                have := Hlen4.out
                rw [List.length_map] at g1
                omega)
              have f2 : decide ((q : Int) + 1 < (RR.length : Int)) = false := by simp; omega
              have fw : IntKind.i64.wrap ((q : Int) + 1) = (q : Int) + 1 := IntWalk.i64_in _ ⟨by omega, by omega⟩
              go_wp2
              go_quiet (fail)
              go_wp2
              go_roundw
              case rel => exact ⟨1, _, by omega, by go_num, rfl, Hno, Lib.hid (fun h => by omega)⟩
              case measure => simp [intOf]
          · have h01 := hk1.out (by omega)
            by_cases hq0 : q = 0
            · have hM1 : M = -1 := by have := HM.out; omega
              subst hM1
              have Hno : Hid (2 ≤ 2 → ¬ ∃ f, q = f + 1 ∧ mayM b (R4.map Row.l) f) := Lib.hid (fun _ ⟨f, hf, _⟩ => by omega)
              have H01 := Lib.hid h01
              clear h01 hq0
              go_wp2
              go_quiet (fail)
              go_wp2
              go_roundw
              case rel => exact ⟨2, _, by omega, by go_num, rfl, Lib.hid (fun _ => H01.out), Hno⟩
              case measure => simp [intOf]
            · obtain ⟨f, hqf⟩ : ∃ f, q = f + 1 := ⟨q - 1, by omega⟩
              have hM1 : M = (f : Int) := by have := HM.out; omega
              subst hM1
              have Hqf := Lib.hid hqf
              have H01 := Lib.hid h01
              have kx := Hcl.out f (by omega)
              have ky := Hcl.out (f + 1) (by omega)
              have hb1 : (nthA (R4.map Row.l) f).length = (nthR R4 f).l.length := by rw [nthA_map R4 f (by have := Hlen4.out; omega)]
              have hb2' : (nthA (R4.map Row.l) (f + 1)).length = (nthR R4 (f + 1)).l.length := by rw [nthA_map R4 (f + 1) (by have := Hlen4.out; omega)]
              have mx : nthR R4 f ∈ R4 := nthR_mem (by have := Hlen4.out; omega)
              have my : nthR R4 (f + 1) ∈ R4 := nthR_mem (by have := Hlen4.out; omega)
              have hlx := HLL.out _ mx
              have hly := HLL.out _ my
              have hf1 : f + 1 < RR.length := by omega
              have f2 : (f : Int) + 1 < RR.length := by omega
              have f3 : (f : Int) < RR.length := by omega
              have fw : IntKind.i64.wrap ((f : Int) + 1) = (f : Int) + 1 := IntWalk.i64_in _ ⟨by omega, by omega⟩
              have fw2 : IntKind.i64.wrap ((f : Int) + 2) = (f : Int) + 2 := IntWalk.i64_in _ ⟨by omega, by omega⟩
              obtain ⟨x, hx⟩ : ∃ x, nthR R4 f = x := ⟨_, rfl⟩
              obtain ⟨y, hy⟩ : ∃ y, nthR R4 (f + 1) = y := ⟨_, rfl⟩
              rw [hx] at kx hb1 mx hlx
              rw [hy] at ky hb2' my hly
              have Hx := Lib.hid hx
              have Hy := Lib.hid hy
              have Hb1 := Lib.hid hb1
              have Hb2 := Lib.hid hb2'
              have sw : IntKind.i64.wrap ((x.l.length : Int) + y.l.length) = (x.l.length : Int) + y.l.length := IntWalk.i64_in _ ⟨by omega, by omega⟩
              clear hx hy hb1 hb2' h01 hqf hq0
              by_cases hs : (x.l.length : Int) + y.l.length ≤ b
              · go_wp2
                go_quiet (fail)
                have hCC : ∀ W, Ext W4 W → W.cell? ⟨g, f, none⟩ = some (.slice (some ⟨x.h, 0, none⟩) x.l.length x.c) ∧ W.cell? ⟨g, f + 1, none⟩ = some (.slice (some ⟨y.h, 0, none⟩) y.l.length y.c) := fun W hW => ⟨hW.cell kx, hW.cell ky⟩
                have hxc : Ext W4 ((W4.drewN n).drewN nq) := ((Ext.refl W4).drewN n).drewN nq
                generalize (W4.drewN n).drewN nq = Wc at hxc ⊢
                have f0 : ¬ ((f : Int) + 1 < 0) := by omega
                have f0' : (0 : Int) ≤ (f : Int) + 1 := by omega
                have hcat := fun (Wd : World) (E : Nat) (hd : Ext W4 Wd) (hE : Wd.heap[E]? = some (.cells #[.slice (some ⟨x.h, 0, none⟩) x.l.length x.c, .slice (some ⟨y.h, 0, none⟩) y.l.length y.c] 22 (0, 0))) => cat2 (base := base) ((HT4.out x mx).ext hd).inB ((HT4.out y my).ext hd).inB hE (Hnz.out x mx) (Hnz.out y my) (by omega) (Nat.le_trans hbase (Nat.le_trans HB4.out.size hd.size))
                have hfrz : W4.frozen? ⟨g, f, none⟩ = false := HO4.out.out.frozenAt _
                go_wp2
                refine wp_region_noPanic ?_
                refine wp_region_F (fun W => W.cell? ⟨g, f, none⟩ = some (.slice (some ⟨x.h, 0, none⟩) x.l.length x.c) ∧ W.cell? ⟨g, f + 1, none⟩ = some (.slice (some ⟨y.h, 0, none⟩) y.l.length y.c)) 14 (by kernel_rfl) ?_
                have hc0 := hCC _ (hxc.drew)
                refine wpAnyF_take (i := 0) (v := .slice (some ⟨g, 0, none⟩) RR.length cap) (fuel := 14) rfl (by kernel_rfl) (by kernel_rfl) (by kernel_rfl) (by kernel_rfl) (by kernel_rfl) rfl (fun _ _ _ h => h) (.inl ⟨rfl, fun W hS => by obtain ⟨e1, e2⟩ := hS; go_simp⟩) hc0 ?_
                refine wpAnyF_take (i := 1) (v := .int .i64 f) (fuel := 13) rfl (by kernel_rfl) (by kernel_rfl) (by kernel_rfl) (by kernel_rfl) (by kernel_rfl) rfl (fun _ _ _ h => h) (.inl ⟨rfl, fun W hS => by obtain ⟨e1, e2⟩ := hS; go_simp⟩) hc0 ?_
                refine wpAnyF_take (i := 2) (v := .slice (some ⟨g, 0, none⟩) RR.length cap) (fuel := 12) rfl (by kernel_rfl) (by kernel_rfl) (by kernel_rfl) (by kernel_rfl) (by kernel_rfl) rfl (fun _ _ _ h => h) (.inl ⟨rfl, fun W hS => by obtain ⟨e1, e2⟩ := hS; go_simp⟩) hc0 ?_
                refine wpAnyF_take (i := 3) (v := .int .i64 f) (fuel := 11) rfl (by kernel_rfl) (by kernel_rfl) (by kernel_rfl) (by kernel_rfl) (by kernel_rfl) rfl (fun _ _ _ h => h) (.inl ⟨rfl, fun W hS => by obtain ⟨e1, e2⟩ := hS; go_simp⟩) hc0 ?_
                refine wpAnyF_take (i := 4) (v := .pointer (some ⟨g, f, none⟩)) (fuel := 10) rfl (by kernel_rfl) (by kernel_rfl) (by kernel_rfl) (by kernel_rfl) (by kernel_rfl) rfl (fun _ _ _ h => h) (.inl ⟨rfl, fun W hS => by obtain ⟨e1, e2⟩ := hS; go_simp⟩) hc0 ?_
                refine wpAnyF_take (i := 5) (v := .slice (some ⟨x.h, 0, none⟩) x.l.length x.c) (fuel := 9) rfl (by kernel_rfl) (by kernel_rfl) (by kernel_rfl) (by kernel_rfl) (by kernel_rfl) rfl (fun _ _ _ h => h) (.inl ⟨rfl, fun W hS => by obtain ⟨e1, e2⟩ := hS; go_simp⟩) hc0 ?_
                refine wpAnyF_take (i := 6) (v := .slice (some ⟨g, 0, none⟩) RR.length cap) (fuel := 8) rfl (by kernel_rfl) (by kernel_rfl) (by kernel_rfl) (by kernel_rfl) (by kernel_rfl) rfl (fun _ _ _ h => h) (.inl ⟨rfl, fun W hS => by obtain ⟨e1, e2⟩ := hS; go_simp⟩) hc0 ?_
                refine wpAnyF_take (i := 7) (v := .int .i64 f) (fuel := 7) rfl (by kernel_rfl) (by kernel_rfl) (by kernel_rfl) (by kernel_rfl) (by kernel_rfl) rfl (fun _ _ _ h => h) (.inl ⟨rfl, fun W hS => by obtain ⟨e1, e2⟩ := hS; go_simp⟩) hc0 ?_
                refine wpAnyF_take (i := 8) (v := .int .i64 ((f : Int) + 1)) (fuel := 6) rfl (by kernel_rfl) (by kernel_rfl) (by kernel_rfl) (by kernel_rfl) (by kernel_rfl) rfl (fun _ _ _ h => h) (.inl ⟨rfl, fun W hS => by obtain ⟨e1, e2⟩ := hS; go_simp⟩) hc0 ?_
                refine wpAnyF_take (i := 9) (v := .pointer (some ⟨g, f + 1, none⟩)) (fuel := 5) rfl (by kernel_rfl) (by kernel_rfl) (by kernel_rfl) (by kernel_rfl) (by kernel_rfl) rfl (fun _ _ _ h => h) (.inl ⟨rfl, fun W hS => by obtain ⟨e1, e2⟩ := hS; go_simp⟩) hc0 ?_
                refine wpAnyF_take (i := 10) (v := .slice (some ⟨y.h, 0, none⟩) y.l.length y.c) (fuel := 4) rfl (by kernel_rfl) (by kernel_rfl) (by kernel_rfl) (by kernel_rfl) (by kernel_rfl) rfl (fun _ _ _ h => h) (.inl ⟨rfl, fun W hS => by obtain ⟨e1, e2⟩ := hS; go_simp⟩) hc0 ?_
                refine wpAnyF_one (i := 11) (fuel := 3) rfl (by kernel_rfl) rfl fun K' hK' => ?_
                go_simp
                refine hK' _ _ (fun _ => hCC _ ((hxc.alloc _).drew)) ?_
                clear hK' K'
                refine wpAnyF_one (i := 12) (fuel := 2) rfl (by kernel_rfl) rfl fun K' hK' => ?_
                go_simp
                refine (hcat _ _ (by exact (hxc.alloc _).drew) (by exact alloc_at _ _ _ (by simp))).mono ?_
                rintro e w5 ⟨gc, cc', rfl, hTc, hx5, hgc⟩
                have hx45 : Ext W4 w5 := ((hxc.alloc _).drew).trans hx5
                have hc5 := hCC _ hx45
                have hfr5 := hx45.frozen kx hfrz
                have hgc4 : W4.heap.size ≤ gc := Nat.le_trans (Ext.size ((hxc.alloc _).drew)) hgc
                refine hK' _ _ (fun _ => hc5) ?_
                clear hK' K'
                refine wpAnyF_one (i := 13) (fuel := 1) rfl (by kernel_rfl) rfl fun K' hK' => ?_
                go_simp
                refine hK' _ _ (fun _ => hc5) ?_
                clear hK' K'
                refine wpAnyF_one (i := 14) (fuel := 0) rfl (by kernel_rfl) rfl fun K' hK' => ?_
                have hc51 := hc5.1
                go_simp
                refine hK' _ _ (fun h => by simp at h) ?_
                clear hK' K'
                refine wpAnyF_done (by kernel_rfl) ?_ 0
                refine NoPanic.normal ?_
                obtain ⟨R5, hO6, hT6, hl6, hlen6, hm6⟩ := merged_rows (f := f) (gc := gc) (cc := cc') HO4.out HT4.out (by have := Hlen4.out; omega) hx45 (by rw [Hx.out, Hy.out]; exact hTc) hgc4
                rw [Hx.out, Hy.out] at hO6 hT6
                rw [Hlen4.out] at hO6 hlen6
                rw [Hy.out] at hlen6
                rw [List.length_append] at hO6 hT6
                have hD6 : (w5.setCell ⟨g, f, none⟩ (.slice (some ⟨gc, 0, none⟩) (x.l.length + y.l.length) cc')).heap[W2.heap.size]? = some (.deferred (some [])) := (Below.heap_setCell _ _ _ _ (by have := Hgr.out.1; simp only; omega)).trans (hx45.heap HD4.out)
                have hB6 : Below base w (w5.setCell ⟨g, f, none⟩ (.slice (some ⟨gc, 0, none⟩) (x.l.length + y.l.length) cc')) := Below.setCell (Below.trans HB4.out (Below.mono hx45 (Nat.le_trans hbase HB4.out.size))) (HO4.out.out.lt g rfl).1 _
                have c36 : (w5.setCell ⟨g, f, none⟩ (.slice (some ⟨gc, 0, none⟩) (x.l.length + y.l.length) cc')).cell? ⟨w.heap.size + 1, 3, none⟩ = some (.int .i64 key) := by rw [World.cell?_setCell_far _ _ _ _ (Ne.symm n2)]; exact hx45.cell c3
                have hRf : remF b (RR.map Row.l) index = mergeAt (R4.map Row.l) f := Hm2.out H01.out f Hqf.out ⟨by rw [List.length_map, Hlen4.out]; exact hf1, by rw [Hb1.out, Hb2.out]; omega⟩
                have HRf := Lib.hid (hm6.trans hRf.symm)
                have hdl : ∀ Wd, Ext (w5.setCell ⟨g, f, none⟩ (.slice (some ⟨gc, 0, none⟩) (x.l.length + y.l.length) cc')) Wd → Calls Try.prog 69 #[.slice (some ⟨g, 0, none⟩) RR.length cap, .int .i64 ((f : Int) + 1), .int .i64 ((f : Int) + 2)] Wd fun e w' => e = .returned (.slice (some ⟨g, 0, none⟩) (RR.length - 1) cap) ∧ OwnA w' base (.slice (some ⟨g, 0, none⟩) (RR.length - 1) cap) (R5.take (f + 1) ++ R5.drop (f + 1)) ∧ (∀ x ∈ R5.take (f + 1) ++ R5.drop (f + 1), TightB w' base x) ∧ Upd Wd g w' := fun Wd hd => by
                  have h3 := del_row hO6 hT6 hlen6.symm hl6 hle4 hd
                  have e1 : ((f + 1 : Nat) : Int) = (f : Int) + 1 := by omega
                  have e2 : (f : Int) + 1 + 1 = (f : Int) + 2 := by omega
                  rw [e1, e2] at h3
                  exact h3
                clear hc5 hc51 hfr5 hO6 hT6 hl6 hlen6 hm6 hRf hTc hx5 hx45 hgc hgc4 hcat hCC hc0 kx ky hxc hfrz hxn
                generalize w5.setCell ⟨g, f, none⟩ (.slice (some ⟨gc, 0, none⟩) (x.l.length + y.l.length) cc') = W6 at *
                go_wp2
                go_region_held3 (fun w' => w'.cell? ⟨w.heap.size + 1, 3, none⟩ = some (.int .i64 key)) (first | go_keep | exact x3)
                  (first
                    | (go_at_call 69; refine (hdl _ (by exact (Ext.refl _).drew)).mono ?_; rintro e w7 ⟨rfl, hO7, hT7, hu7⟩; have x3 := hu7.cell (((Ext.refl W6).drew).cell c36) n2)
                    | fail)
                all_goals
                  go_wp2
                  have hD7 : w7.heap[W2.heap.size]? = some (.deferred (some [])) := by
                    have hg := Hgr.out.1
                    exact hu7.heap (a := W6.drew) hD6 (by omega)
                  refine ⟨by simp, .inl ⟨_, _, rfl, run_takeDeferred hD7, ?_⟩⟩
                  exact ⟨.tuple #[.slice (some ⟨g, 0, none⟩) (RR.length - 1) cap, .int .i64 key], by simp [results, Try.results56, go_sem], HF.out _ _ _ hO7 hT7 HRf.out (Below.grown (Below.drew hB6) hu7 (Nat.le_trans hbase hB6.size) (fun i hi => by injection hi with hi; have := (hO7.out.lt g rfl).1; omega)) hD7⟩
              · have Hno : Hid (2 ≤ 2 → ¬ ∃ f, q = f + 1 ∧ mayM b (R4.map Row.l) f) := Lib.hid (fun _ ⟨f', hf', hh⟩ => by
                  have hff : f' = f := by have := Hqf.out; omega
                  subst hff
                  obtain ⟨_, g2⟩ := hh
                  rw [Hb1.out, Hb2.out] at g2
                  omega)
                go_wp2
                go_quiet (fail)
                go_wp2
                go_roundw
                case rel => exact ⟨2, _, by omega, by go_num, rfl, Lib.hid (fun _ => H01.out), Hno⟩
                case measure => simp [intOf]
          · have h01 := hk1.out (by omega)
            have h02 := hk2.out (by omega)
            have hRf := Hm3.out h01 (fun f hf hm => h02 ⟨f, hf, hm⟩)
            have HRf := Lib.hid hRf
            have hD7 : (W4.drewN n).drew.heap[W2.heap.size]? = some (.deferred (some [])) := HD4.out
            have hO7 := HO4.out.ext (hxn.drew)
            rw [Hlen4.out] at hO7
            have hT7 := fun x hx => (HT4.out x hx).ext (hxn.drew)
            have hB7 : Below base w (W4.drewN n).drew := Below.trans HB4.out (Below.mono (hxn.drew) (Nat.le_trans hbase HB4.out.size))
            have c37 := hxn.cell c3
            clear h01 h02 hRf
            go_wp2
            go_region_held3 (fun w' => w'.cell? ⟨w.heap.size + 1, 3, none⟩ = some (.int .i64 key)) (go_keep) (fail)
            all_goals
              go_wp2
              refine ⟨by simp, .inl ⟨_, _, rfl, run_takeDeferred hD7, ?_⟩⟩
              exact ⟨.tuple #[.slice (some ⟨g, 0, none⟩) RR.length cap, .int .i64 key], by simp [results, Try.results56, go_sem], HF.out _ _ _ hO7 hT7 HRf.out.symm hB7 hD7⟩
end Go.Proofs.Ytiakmcfbkceojaa
