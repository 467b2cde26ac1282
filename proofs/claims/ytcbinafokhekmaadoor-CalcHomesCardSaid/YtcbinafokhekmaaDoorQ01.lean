/- CaB; CaC (merged by group.py) -/
import Derived.Test.YtcbinafokhekmaaDoorQ00
namespace Go.Proofs.YtcbinafokhekmaaDoor
section
set_option linter.unusedVariables false
set_option maxRecDepth 20000
set_option linter.unusedSimpArgs false
set_option linter.unusedSectionVars false
section
variable {α : Type}
/-- bucket b; an empty one beyond the end -/
def bkt (T : List (Bkt α)) (b : Nat) : Bkt α := T.getD b ([], -1)
theorem bkt_some {T : List (Bkt α)} {b : Nat} (h : b < T.length) : T[b]? = some (bkt T b) := by simp [bkt, List.getD_eq_getElem?_getD, h]
theorem bkt_of {T : List (Bkt α)} {b : Nat} {x : Bkt α} (h : T[b]? = some x) : bkt T b = x := by simp [bkt, List.getD_eq_getElem?_getD, h]
theorem bkt_congr {T T' : List (Bkt α)} {b : Nat} (h : T[b]? = T'[b]?) : bkt T b = bkt T' b := by
  unfold bkt
  rw [List.getD_eq_getElem?_getD, List.getD_eq_getElem?_getD, h]
def freeF (h : Nat) (T : List (Bkt α)) : Nat := h + (List.range (T.length - h)).findIdx fun j => !ledB T (h + j)
theorem freeF_is {h : Nat} {T : List (Bkt α)} (hT : h ≤ T.length) : IsFree h T (freeF h T) := by
  have hle : (List.range (T.length - h)).findIdx (fun j => !ledB T (h + j)) ≤ T.length - h := by
    have := List.findIdx_le_length (p := fun j => !ledB T (h + j)) (xs := List.range (T.length - h))
    simpa using this
  refine ⟨by unfold freeF; omega, by unfold freeF; omega, fun j hj hlt => ?_, fun hlt => ?_⟩
  · unfold freeF at hlt
    have h1 := List.not_of_lt_findIdx (p := fun j => !ledB T (h + j)) (xs := List.range (T.length - h)) (i := j - h) (by omega)
    rw [List.getElem_range] at h1
    rw [show h + (j - h) = j from by omega] at h1
    simpa using h1
  · unfold freeF at hlt ⊢
    have h1 := List.findIdx_getElem (p := fun j => !ledB T (h + j)) (xs := List.range (T.length - h)) (w := by rw [List.length_range]; omega)
    rw [List.getElem_range] at h1
    simpa using h1
def roomF (T : List (Bkt α)) (f : Nat) : List (Bkt α) := if f = T.length then T ++ [([], -1)] else T
theorem roomF_len (T : List (Bkt α)) {f : Nat} (hf : f ≤ T.length) : f < (roomF T f).length := by
  unfold roomF
  split
  · simp; omega
  · omega
/-- what the program's put makes; e is the last bucket of the run -/
def putF (h r : Nat) (T : List (Bkt α)) (e : Nat) (x : α) : List (Bkt α) :=
  if (bkt T e).1.length = r then
    let f := freeF h T
    let T2 := (roomF T f).set e ((bkt (roomF T f) e).1, (f : Int))
    T2.set f ((bkt T2 f).1 ++ [x], (bkt T2 f).2)
  else T.set e ((bkt T e).1 ++ [x], (bkt T e).2)
/-- the reference: a run as long as is wanted -/
def growF (h : Nat) : Nat → List (Bkt α) → List Nat → List (Bkt α) × List Nat
  | 0, T, p => (T, p)
  | n + 1, T, p =>
    let f := freeF h T
    let e := p.getD (p.length - 1) 0
    growF h n ((roomF T f).set e ((bkt (roomF T f) e).1, (f : Int))) (p ++ [f])
/-- n buckets of the path are laid anew -/
def layF (r : Nat) (p : List Nat) (l : List α) : Nat → List (Bkt α) → List (Bkt α)
  | 0, T => T
  | n + 1, T => (layF r p l n T).set (p.getD n 0) (if n < needC r l.length then chunk r n l else [], if n + 1 < needC r l.length then (p.getD (n + 1) 0 : Nat) else -1)
/-- the program's way to lay -/
def fillF (r : Nat) (p : List Nat) (l : List α) : Nat → List (Bkt α) → List (Bkt α)
  | 0, T => T
  | n + 1, T => (fillF r p l n T).set (p.getD n 0) (chunk r n l, if l.length ≤ (n + 1) * r then -1 else (bkt (fillF r p l n T) (p.getD n 0)).2)
def withF (h r : Nat) (T : List (Bkt α)) (p : List Nat) (l : List α) : List (Bkt α) :=
  let g := growF h (needC r l.length - p.length) T p
  let T' := layF r g.2 l g.2.length g.1
  trimL h (T'.length - h) T'

theorem layF_len (r : Nat) (p : List Nat) (l : List α) (T : List (Bkt α)) : ∀ n, (layF r p l n T).length = T.length
  | 0 => rfl
  | n + 1 => by unfold layF; rw [List.length_set, layF_len r p l T n]
theorem fillF_len (r : Nat) (p : List Nat) (l : List α) (T : List (Bkt α)) : ∀ n, (fillF r p l n T).length = T.length
  | 0 => rfl
  | n + 1 => by unfold fillF; rw [List.length_set, fillF_len r p l T n]
theorem getD_some {p : List Nat} {i b : Nat} (h : p[i]? = some b) : p.getD i 0 = b := by simp [List.getD_eq_getElem?_getD, h]
theorem some_getD {p : List Nat} {i : Nat} (h : i < p.length) : p[i]? = some (p.getD i 0) := by simp [List.getD_eq_getElem?_getD, h]
theorem nextOf_in {p : List Nat} {i : Nat} (h : i + 1 < p.length) : nextOf p i = (p.getD (i + 1) 0 : Nat) := by
  unfold nextOf
  rw [some_getD h]
theorem nextOf_end {p : List Nat} {i : Nat} (h : p.length ≤ i + 1) : nextOf p i = -1 := by
  unfold nextOf
  rw [List.getElem?_eq_none h]
/-- paths without twice the same bucket, within the table -/
structure Path (T : List (Bkt α)) (p : List Nat) : Prop where
  one : ∀ (i j b : Nat), p[i]? = some b → p[j]? = some b → i = j
  lt : ∀ (i b : Nat), p[i]? = some b → b < T.length
theorem lay_laid {r : Nat} {p : List Nat} {l : List α} {T : List (Bkt α)} (P : Path T p) (hr : 0 < r) (hn : needC r l.length ≤ p.length) : ∀ n, n ≤ p.length →
    (∀ (i b : Nat), i < n → p[i]? = some b → (layF r p l n T)[b]? = some (chunk r i l, if i + 1 < needC r l.length then nextOf p i else -1)) ∧ (∀ b : Nat, (∀ i : Nat, i < n → p[i]? ≠ some b) → (layF r p l n T)[b]? = T[b]?)
  | 0, _ => ⟨fun i b h => by omega, fun b _ => rfl⟩
  | n + 1, hle => by
    obtain ⟨h1, h2⟩ := lay_laid P hr hn n (by omega)
    have hpn := some_getD (p := p) (i := n) (by omega)
    have hlt : p.getD n 0 < (layF r p l n T).length := by rw [layF_len]; exact P.lt n _ hpn
    unfold layF
    refine ⟨fun i b hi hb => ?_, fun b hb => ?_⟩
    · by_cases e : i = n
      · subst e
        obtain rfl := getD_some hb
        rw [List.getElem?_set_self hlt]
        congr 1
        refine Prod.ext ?_ ?_
        · show (if _ then _ else _) = chunk r i l
          by_cases hc : i < needC r l.length
          · rw [if_pos hc]
          · rw [if_neg hc, chunk_none hr (by omega)]
        · show (if _ then _ else _) = (if _ then _ else _)
          by_cases hc : i + 1 < needC r l.length
          · rw [if_pos hc, if_pos hc, nextOf_in (by omega)]
          · rw [if_neg hc, if_neg hc]
      · rw [List.getElem?_set_ne (fun e2 => e (P.one i n b hb (by rw [hpn, e2])))]
        exact h1 i b (by omega) hb
    · rw [List.getElem?_set_ne (fun e2 => hb n (by omega) (by rw [hpn, e2]))]
      exact h2 b fun i hi => hb i (by omega)
theorem fill_laid {r : Nat} {p : List Nat} {l : List α} {T : List (Bkt α)} (P : Path T p) (hr : 0 < r) (hnx : ∀ (i b : Nat), p[i]? = some b → (bkt T b).2 = nextOf p i) : ∀ n, n ≤ p.length →
    (∀ (i b : Nat), i < n → p[i]? = some b → (fillF r p l n T)[b]? = some (chunk r i l, if i + 1 < needC r l.length then nextOf p i else -1)) ∧ (∀ b : Nat, (∀ i : Nat, i < n → p[i]? ≠ some b) → (fillF r p l n T)[b]? = T[b]?)
  | 0, _ => ⟨fun i b h => by omega, fun b _ => rfl⟩
  | n + 1, hle => by
    obtain ⟨h1, h2⟩ := fill_laid (l := l) P hr hnx n (by omega)
    have hpn := some_getD (p := p) (i := n) (by omega)
    have hlt : p.getD n 0 < (fillF r p l n T).length := by rw [fillF_len]; exact P.lt n _ hpn
    have hold : (bkt (fillF r p l n T) (p.getD n 0)).2 = nextOf p n := by
      rw [← hnx n _ hpn]
      rw [bkt_congr (h2 _ fun i hi e => by have := P.one i n _ e hpn; omega)]
    unfold fillF
    refine ⟨fun i b hi hb => ?_, fun b hb => ?_⟩
    · by_cases e : i = n
      · subst e
        obtain rfl := getD_some hb
        rw [List.getElem?_set_self hlt]
        congr 1
        refine Prod.ext rfl ?_
        show (if _ then _ else _) = (if _ then _ else _)
        have hc := need_lt (n := l.length) (i := i) hr
        by_cases hh : i + 1 < needC r l.length
        · have := hc.1 hh
          rw [if_neg (by omega), if_pos hh, hold]
        · have := fun e => hh (hc.2 e)
          rw [if_pos (by omega), if_neg hh]
      · rw [List.getElem?_set_ne (fun e2 => e (P.one i n b hb (by rw [hpn, e2])))]
        exact h1 i b (by omega) hb
    · rw [List.getElem?_set_ne (fun e2 => hb n (by omega) (by rw [hpn, e2]))]
      exact h2 b fun i hi => hb i (by omega)
theorem Laid.mk_ {r : Nat} {p : List Nat} {l : List α} {T T' : List (Bkt α)} (h0 : T'.length = T.length)
    (h : (∀ (i b : Nat), i < p.length → p[i]? = some b → T'[b]? = some (chunk r i l, if i + 1 < needC r l.length then nextOf p i else -1)) ∧ (∀ b : Nat, (∀ i : Nat, i < p.length → p[i]? ≠ some b) → T'[b]? = T[b]?)) : Laid r p l T T' :=
  ⟨h0, fun i b hb => h.1 i b (List.getElem?_eq_some_iff.1 hb).1 hb, fun b hb => h.2 b fun i _ e => hb (List.mem_iff_getElem?.2 ⟨i, e⟩)⟩
theorem Good.path {h r : Nat} {T : List (Bkt α)} {R : Nat → List Nat} {L : Nat → List α} (G : Good h r T R L) {k : Nat} (hk : k < h) : Path T (R k) :=
  ⟨fun i j b hi hj => (G.one k hk k hk i j b hi hj).2, fun i b hi => G.lt hk hi⟩
theorem Good.bkt_eq {h r : Nat} {T : List (Bkt α)} {R : Nat → List Nat} {L : Nat → List α} (G : Good h r T R L) {k i b : Nat} (hk : k < h) (hi : (R k)[i]? = some b) : bkt T b = (chunk r i (L k), nextOf (R k) i) := bkt_of (G.cell k hk i b hi)
/-- less is laid: both ways are one, and what comes is a table -/
theorem Good.less {h r : Nat} {T : List (Bkt α)} {R : Nat → List Nat} {L : Nat → List α} (G : Good h r T R L) {k : Nat} (hk : k < h) {l : List α} (hl : l.length ≤ (L k).length) :
    trimE h (T.length - h) (fillF r (R k) l (R k).length T) = withF h r T (R k) l ∧ ∃ R', Good h r (withF h r T (R k) l) R' (upd L k l) ∧ Tight h (withF h r T (R k) l) R' := by
  have hn : needC r l.length ≤ (R k).length := by
    rw [G.size k hk]
    unfold needC
    have : (l.length + r - 1) / r ≤ ((L k).length + r - 1) / r := Nat.div_le_div_right (by omega)
    omega
  have a : Laid r (R k) l T (fillF r (R k) l (R k).length T) := Laid.mk_ (fillF_len ..) (fill_laid (G.path hk) G.r0 (fun i b hb => by rw [G.bkt_eq hk hb]) _ (Nat.le_refl _))
  have b : Laid r (R k) l T (layF r (R k) l (R k).length T) := Laid.mk_ (layF_len ..) (lay_laid (G.path hk) G.r0 hn _ (Nat.le_refl _))
  have e := a.uniq b
  have G2 := G.laid hk (.inl rfl) hn b
  obtain ⟨t1, t2, t3⟩ := Good.trims (T.length - h) (layF r (R k) l (R k).length T) (by rw [layF_len]; have := G.hT; omega) G2
  have ew : withF h r T (R k) l = trimL h (T.length - h) (layF r (R k) l (R k).length T) := by
    unfold withF
    rw [show needC r l.length - (R k).length = 0 from by omega]
    simp only [growF, layF_len]
  rw [e, ew, ← t1]
  exact ⟨rfl, _, t2, t3⟩
theorem last_getD {p : List Nat} (h : 0 < p.length) : p[p.length - 1]? = some (p.getD (p.length - 1) 0) := some_getD (by omega)
theorem Tight.keep {h : Nat} {T : List (Bkt α)} {R R' : Nat → List Nat} (t : Tight h T R) (hs : ∀ k, k < h → ∀ (i b : Nat), (R k)[i]? = some b → (R' k)[i]? = some b) : Tight h T R' := by
  rcases t with e | ⟨k, hk, i, hi⟩
  · exact .inl e
  · exact .inr ⟨k, hk, i, hs k hk i _ hi⟩
theorem room_good {h r : Nat} {T : List (Bkt α)} {R : Nat → List Nat} {L : Nat → List α} (G : Good h r T R L) (f : Nat) : Good h r (roomF T f) R L := by
  unfold roomF
  split
  · exact G.grow
  · exact G
theorem room_bkt (T : List (Bkt α)) (f b : Nat) (hb : b < T.length) : bkt (roomF T f) b = bkt T b := by
  unfold roomF
  split
  · unfold bkt
    rw [List.getD_eq_getElem?_getD, List.getD_eq_getElem?_getD, List.getElem?_append_left hb]
  · rfl
/-- one entry more: both ways are one, and what comes is a table -/
theorem Good.more {h r : Nat} {T : List (Bkt α)} {R : Nat → List Nat} {L : Nat → List α} (G : Good h r T R L) (tt : Tight h T R) {k : Nat} (hk : k < h) (x : α) :
    putF h r T ((R k).getD ((R k).length - 1) 0) x = withF h r T (R k) (L k ++ [x]) ∧ ∃ R', Good h r (withF h r T (R k) (L k ++ [x])) R' (upd L k (L k ++ [x])) ∧ Tight h (withF h r T (R k) (L k ++ [x])) R' := by
  have hp := G.len_pos hk
  have hsz := G.size k hk
  have hr := G.r0
  have hlast := last_getD hp
  have hbe := G.bkt_eq hk hlast
  have hend := G.lt hk hlast
  have hall := need_all (n := (L k).length) hr
  rw [← hsz] at hall
  have hneed2 : needC r (L k ++ [x]).length = if (L k).length = (R k).length * r then (R k).length + 1 else (R k).length := by
    rw [List.length_append, List.length_singleton]
    have n1 : ∀ i, 0 < i → (i < needC r ((L k).length + 1) ↔ i * r < (L k).length + 1) := fun i hi => need_le hr hi
    have n2 : ∀ i, 0 < i → (i < (R k).length ↔ i * r < (L k).length) := fun i hi => by rw [hsz]; exact need_le hr hi
    have np := need_pos r ((L k).length + 1)
    split
    · rename_i hc
      have a1 := (n1 (R k).length hp).2 (by omega)
      have a2 := mt (n1 ((R k).length + 1) (by omega)).1 (by rw [Nat.add_mul]; omega)
      omega
    · rename_i hc
      have a1 := mt (n1 (R k).length hp).1 (by omega)
      by_cases h1 : (R k).length = 1
      · omega
      · have a2 := (n2 ((R k).length - 1) (by omega)).1 (by omega)
        have a3 := (n1 ((R k).length - 1) (by omega)).2 (by omega)
        omega
  have hlow : ((R k).length - 1) * r ≤ (L k).length := by
    by_cases h1 : (R k).length = 1
    · rw [h1]; simp
    · have := (need_le (n := (L k).length) (i := (R k).length - 1) hr (by omega)).1 (by rw [← hsz]; omega)
      omega
  have hml : ((R k).length - 1) * r + r = (R k).length * r := by
    have : (R k).length = ((R k).length - 1) + 1 := by omega
    conv => rhs; rw [this, Nat.add_mul, Nat.one_mul]
  have hcl : (bkt T ((R k).getD ((R k).length - 1) 0)).1.length = (L k).length - ((R k).length - 1) * r := by
    rw [hbe]
    show (chunk _ _ _).length = _
    rw [chunk_len]
    omega
  have hlastn : nextOf (R k) ((R k).length - 1) = -1 := nextOf_end (by omega)
  have hsing : ∀ i, (i + 1) * r ≤ (L k).length → chunk r i (L k ++ [x]) = chunk r i (L k) := fun i hi => chunk_app hi
  by_cases hfull : (L k).length = (R k).length * r
  · -- a bucket more
    rw [if_pos hfull] at hneed2
    have hfr := freeF_is G.hT
    have hno := G.isFree_no hfr
    have hflt := roomF_len T hfr.2.1
    have G1 := room_good G (freeF h T)
    have hTlen : ∀ b, b < T.length → b < (roomF T (freeF h T)).length := fun b hb => by
      unfold roomF
      split
      · simp; omega
      · exact hb
    have hb1 := room_bkt T (freeF h T)
    have t1 : Tight h (roomF T (freeF h T)) (upd R k (R k ++ [freeF h T])) := by
      by_cases hc : freeF h T = T.length
      · refine .inr ⟨k, hk, (R k).length, ?_⟩
        rw [upd_same]
        unfold roomF
        rw [if_pos hc]
        simp [hc]
      · unfold roomF
        rw [if_neg hc]
        refine tt.keep fun k' hk' i b hi => ?_
        by_cases e : k' = k
        · subst e
          rw [upd_same, List.getElem?_append_left (List.getElem?_eq_some_iff.1 hi).1]
          exact hi
        · rw [upd_ne _ _ e]; exact hi
    have hpath1 : Path (roomF T (freeF h T)) (R k ++ [freeF h T]) := by
      refine ⟨fun i j b hi hj => ?_, fun i b hi => ?_⟩
      · have hi1 := (List.getElem?_eq_some_iff.1 hi).1
        have hj1 := (List.getElem?_eq_some_iff.1 hj).1
        simp at hi1 hj1
        by_cases h1 : i < (R k).length
        · rw [List.getElem?_append_left h1] at hi
          by_cases h2 : j < (R k).length
          · rw [List.getElem?_append_left h2] at hj
            exact (G.one k hk k hk i j b hi hj).2
          · obtain rfl : j = (R k).length := by omega
            simp at hj
            subst hj
            exact absurd hi (hno k hk i)
        · obtain rfl : i = (R k).length := by omega
          simp at hi
          subst hi
          by_cases h2 : j < (R k).length
          · rw [List.getElem?_append_left h2] at hj
            exact absurd hj (hno k hk j)
          · omega
      · by_cases h1 : i < (R k).length
        · rw [List.getElem?_append_left h1] at hi
          exact hTlen _ (G.lt hk hi)
        · have hi1 := (List.getElem?_eq_some_iff.1 hi).1
          simp at hi1
          obtain rfl : i = (R k).length := by omega
          simp at hi
          subst hi
          exact hflt
    have hgetf := G1.free (freeF h T) hflt hno
    have hputf : putF h r T ((R k).getD ((R k).length - 1) 0) x = (((roomF T (freeF h T)).set ((R k).getD ((R k).length - 1) 0) ((bkt T ((R k).getD ((R k).length - 1) 0)).1, (freeF h T : Int))).set (freeF h T) ([x], -1)) := by
      unfold putF
      rw [if_pos (by rw [hcl]; omega)]
      have hne : (R k).getD ((R k).length - 1) 0 ≠ freeF h T := fun e => hno k hk _ (by rw [← e]; exact hlast)
      have : bkt ((roomF T (freeF h T)).set ((R k).getD ((R k).length - 1) 0) ((bkt (roomF T (freeF h T)) ((R k).getD ((R k).length - 1) 0)).1, (freeF h T : Int))) (freeF h T) = ([], -1) := by
        refine bkt_of ?_
        rw [List.getElem?_set_ne hne]
        exact hgetf
      dsimp only
      rw [this, hb1 _ hend]
      rfl
    generalize hf : freeF h T = f at *
    generalize he : (R k).getD ((R k).length - 1) 0 = e at *
    have hne : e ≠ f := fun e' => hno k hk _ (by rw [← e']; exact hlast)
    have hLP : Laid r (R k ++ [f]) (L k ++ [x]) (roomF T f) (putF h r T e x) := by
      rw [hputf]
      refine ⟨by rw [List.length_set, List.length_set], fun i b hb => ?_, fun b hb => ?_⟩
      · rw [hneed2]
        by_cases hi : i < (R k).length
        · have hb' := hb
          rw [List.getElem?_append_left hi] at hb
          have hbf : f ≠ b := fun e' => hno k hk i (by rw [e']; exact hb)
          rw [List.getElem?_set_ne hbf, if_pos (by omega)]
          by_cases hl : i = (R k).length - 1
          · subst hl
            rw [hlast] at hb
            obtain rfl := Option.some.inj hb
            rw [List.getElem?_set_self (hTlen _ hend), hbe]
            congr 1
            refine Prod.ext ?_ ?_
            · exact (hsing _ (by rw [Nat.add_mul]; omega)).symm
            · show (f : Int) = nextOf _ _
              rw [nextOf_in (by simp; omega), getD_some (b := f) (by rw [List.getElem?_append_right (by omega)]; rw [show (R k).length - 1 + 1 - (R k).length = 0 from by omega]; rfl)]
          · have hle : e ≠ b := fun e' => hl (G.one k hk k hk i _ b hb (by rw [hlast, e'])).2
            rw [List.getElem?_set_ne hle, G1.cell k hk i b hb]
            congr 1
            refine Prod.ext ?_ ?_
            · refine (hsing _ ?_).symm
              have := Nat.mul_le_mul_right r (show i + 1 ≤ (R k).length by omega)
              omega
            · show nextOf _ _ = nextOf _ _
              unfold nextOf
              rw [List.getElem?_append_left (by omega)]
        · have hi1 := (List.getElem?_eq_some_iff.1 hb).1
          simp at hi1
          obtain rfl : i = (R k).length := by omega
          simp at hb
          subst hb
          rw [List.getElem?_set_self (by rw [List.length_set]; exact hflt), if_neg (by omega)]
          congr 1
          refine Prod.ext ?_ rfl
          show [x] = chunk r _ _
          unfold chunk
          rw [← hfull, List.drop_left, List.take_of_length_le (by simp; omega)]
      · have h1 : f ≠ b := fun e' => hb (by rw [← e']; simp)
        have h2 : e ≠ b := fun e' => hb (by rw [← e']; simp [List.mem_of_getElem? hlast])
        rw [List.getElem?_set_ne h1, List.getElem?_set_ne h2]
    have hw : withF h r T (R k) (L k ++ [x]) = trimL h (roomF T f |>.length.sub h) (layF r (R k ++ [f]) (L k ++ [x]) (R k ++ [f]).length ((roomF T f).set e ((bkt (roomF T f) e).1, (f : Int)))) := by
      unfold withF
      rw [hneed2, show (R k).length + 1 - (R k).length = 1 from by omega]
      simp only [growF, layF_len, hf, he, List.length_set]
      rfl
    have hLL : Laid r (R k ++ [f]) (L k ++ [x]) (roomF T f) (layF r (R k ++ [f]) (L k ++ [x]) (R k ++ [f]).length ((roomF T f).set e ((bkt (roomF T f) e).1, (f : Int)))) := by
      have hp2 : Path ((roomF T f).set e ((bkt (roomF T f) e).1, (f : Int))) (R k ++ [f]) := ⟨hpath1.one, fun i b hb => by rw [List.length_set]; exact hpath1.lt i b hb⟩
      have hq := Laid.mk_ (r := r) (l := L k ++ [x]) (layF_len ..) (lay_laid hp2 hr (by rw [hneed2]; simp) (R k ++ [f]).length (Nat.le_refl _))
      refine ⟨by rw [hq.len, List.length_set], hq.on, fun b hb => ?_⟩
      rw [hq.off b hb]
      exact List.getElem?_set_ne (fun e' => hb (by rw [← e']; simp [List.mem_of_getElem? hlast]))
    have hT1 : roomF T f = roomF T f := rfl
    have G2 := G1.laid hk (.inr ⟨f, rfl, hflt, hno⟩) (by rw [hneed2]; simp) hLL
    have htake : (R k ++ [f]).take (needC r (L k ++ [x]).length) = R k ++ [f] := List.take_of_length_le (by rw [hneed2]; simp)
    rw [htake] at G2
    rw [← hLP.uniq hLL] at G2 hw
    have t2 : Tight h (putF h r T e x) (upd R k (R k ++ [f])) := by
      unfold Tight at t1 ⊢
      rw [hLP.len]
      exact t1
    have hs := t2.stays G2 (roomF T f |>.length.sub h)
    rw [hs] at hw
    rw [hw]
    exact ⟨rfl, _, G2, t2⟩
  · rw [if_neg hfull] at hneed2
    have hlen2 : (bkt T ((R k).getD ((R k).length - 1) 0)).1.length ≠ r := by rw [hcl]; omega
    have hputf : putF h r T ((R k).getD ((R k).length - 1) 0) x = T.set ((R k).getD ((R k).length - 1) 0) ((bkt T ((R k).getD ((R k).length - 1) 0)).1 ++ [x], (bkt T ((R k).getD ((R k).length - 1) 0)).2) := by
      unfold putF
      rw [if_neg hlen2]
    generalize he : (R k).getD ((R k).length - 1) 0 = e at *
    have hLP : Laid r (R k) (L k ++ [x]) T (putF h r T e x) := by
      rw [hputf]
      refine ⟨by rw [List.length_set], fun i b hb => ?_, fun b hb => ?_⟩
      · rw [hneed2]
        have hi := (List.getElem?_eq_some_iff.1 hb).1
        by_cases hl : i = (R k).length - 1
        · subst hl
          rw [hlast] at hb
          obtain rfl := Option.some.inj hb
          rw [List.getElem?_set_self hend, if_neg (by omega), hbe]
          congr 1
          refine Prod.ext ?_ hlastn
          show chunk _ _ _ ++ [x] = chunk _ _ _
          unfold chunk
          rw [List.drop_append_of_le_length hlow, List.take_of_length_le (by rw [List.length_drop]; omega), List.take_of_length_le (by rw [List.length_append, List.length_drop, List.length_singleton]; omega)]
        · have hle : e ≠ b := fun e' => hl (G.one k hk k hk i _ b hb (by rw [hlast, e'])).2
          rw [List.getElem?_set_ne hle, if_pos (by omega), G.cell k hk i b hb]
          congr 1
          refine Prod.ext ?_ rfl
          refine (hsing _ ?_).symm
          have := Nat.mul_le_mul_right r (show i + 1 ≤ (R k).length - 1 by omega)
          omega
      · have h2 : e ≠ b := fun e' => hb (by rw [← e']; exact List.mem_of_getElem? hlast)
        rw [List.getElem?_set_ne h2]
    have hw : withF h r T (R k) (L k ++ [x]) = trimL h (T.length - h) (layF r (R k) (L k ++ [x]) (R k).length T) := by
      unfold withF
      rw [hneed2, Nat.sub_self]
      simp only [growF, layF_len]
    have hLL : Laid r (R k) (L k ++ [x]) T (layF r (R k) (L k ++ [x]) (R k).length T) := Laid.mk_ (layF_len ..) (lay_laid (G.path hk) hr (by rw [hneed2]; omega) _ (Nat.le_refl _))
    have G2 := G.laid hk (.inl rfl) (by rw [hneed2]; omega) hLL
    have htake : (R k).take (needC r (L k ++ [x]).length) = R k := List.take_of_length_le (by rw [hneed2]; omega)
    rw [htake] at G2
    rw [← hLP.uniq hLL] at G2 hw
    have t2 : Tight h (putF h r T e x) (upd R k (R k)) := by
      have hu : upd R k (R k) = R := by
        funext i
        unfold upd
        split
        · subst_vars; rfl
        · rfl
      rw [hu]
      unfold Tight at tt ⊢
      rw [hLP.len]
      exact tt
    have hs := t2.stays G2 (T.length - h)
    rw [hs] at hw
    rw [hw]
    exact ⟨rfl, _, G2, t2⟩
/-- how many entries there are -/
def cntT (T : List (Bkt α)) : Nat := (T.map fun b => b.1.length).sum
def totL (h : Nat) (L : Nat → List α) : Nat := ((List.range h).map fun k => (L k).length).sum
theorem flat_sum (l : List Nat) (f : Nat → List Nat) (g : Nat → Nat) : ((l.flatMap f).map g).sum = (l.map fun k => ((f k).map g).sum).sum := by
  induction l with
  | nil => rfl
  | cons a l ih => rw [List.flatMap_cons, List.map_append, List.sum_append, ih, List.map_cons, List.sum_cons]
theorem Good.cnt {h r : Nat} {T : List (Bkt α)} {R : Nat → List Nat} {L : Nat → List α} (G : Good h r T R L) : cntT T = totL h L := by
  have e1 : cntT T = ((List.range T.length).map fun b => (bkt T b).1.length).sum := by
    unfold cntT
    congr 1
    refine List.ext_getElem? fun i => ?_
    by_cases hi : i < T.length
    · rw [List.getElem?_map, List.getElem?_map, List.getElem?_range hi, bkt_some hi]; rfl
    · rw [List.getElem?_eq_none (by simp; omega), List.getElem?_eq_none (by simp; omega)]
  let A := (List.range h).flatMap R
  let B := (List.range T.length).filter fun b => !A.contains b
  have hA : ∀ b, b ∈ A ↔ ∃ k, k < h ∧ ∃ i : Nat, (R k)[i]? = some b := by
    intro b
    show b ∈ (List.range h).flatMap R ↔ _
    rw [List.mem_flatMap]
    constructor
    · rintro ⟨k, hk, hb⟩
      obtain ⟨i, hi⟩ := List.mem_iff_getElem?.1 hb
      exact ⟨k, by simpa using hk, i, hi⟩
    · rintro ⟨k, hk, i, hi⟩
      exact ⟨k, by simpa using hk, List.mem_of_getElem? hi⟩
  have hnA : A.Nodup := by
    show List.Nodup ((List.range h).flatMap R)
    unfold List.Nodup
    rw [List.pairwise_flatMap]
    refine ⟨fun k hk => ?_, ?_⟩
    · rw [List.pairwise_iff_getElem]
      intro i j hi hj hij e
      have hk' : k < h := by simpa using hk
      have := (G.one k hk' k hk' i j (R k)[i] (List.getElem?_eq_getElem hi) (by rw [e]; exact List.getElem?_eq_getElem hj)).2
      omega
    · rw [List.pairwise_iff_getElem]
      intro k k' hk hk' hlt x hx y hy e
      simp only [List.length_range] at hk hk'
      rw [List.getElem_range] at hx hy
      obtain ⟨i, hi⟩ := List.mem_iff_getElem?.1 hx
      obtain ⟨j, hj⟩ := List.mem_iff_getElem?.1 hy
      subst e
      have := (G.one k hk k' hk' i j x hi hj).1
      omega
  have hnB : B.Nodup := List.Pairwise.filter _ List.nodup_range
  have hn : (A ++ B).Nodup := by
    rw [List.nodup_append]
    refine ⟨hnA, hnB, fun a ha b hb e => ?_⟩
    subst e
    have := (List.mem_filter.1 hb).2
    simp at this
    exact this ha
  have hperm : (A ++ B).Perm (List.range T.length) := by
    rw [List.perm_ext_iff_of_nodup hn List.nodup_range]
    intro b
    rw [List.mem_append, List.mem_range]
    constructor
    · rintro (hb | hb)
      · obtain ⟨k, hk, i, hi⟩ := (hA b).1 hb
        exact G.lt hk hi
      · simpa using (List.mem_filter.1 hb).1
    · intro hb
      by_cases hm : b ∈ A
      · exact .inl hm
      · exact .inr (List.mem_filter.2 ⟨by simpa using hb, by simpa using hm⟩)
  have e2 := (hperm.map (fun b => (bkt T b).1.length)).sum_nat
  rw [e1, ← e2, List.map_append, List.sum_append]
  have e3 : (B.map fun b => (bkt T b).1.length).sum = 0 := by
    have : ∀ b ∈ B, (bkt T b).1.length = 0 := fun b hb => by
      have h1 := List.mem_filter.1 hb
      have h2 : b ∉ A := by simpa using h1.2
      rw [bkt_of (G.free b (by simpa using h1.1) fun k hk i hi => h2 ((hA b).2 ⟨k, hk, i, hi⟩))]
      rfl
    clear e2 hperm hn hnB
    generalize B = B' at this
    induction B' with
    | nil => rfl
    | cons a B' ih => rw [List.map_cons, List.sum_cons, this a (by simp), ih fun b hb => this b (by simp [hb])]
  rw [e3, Nat.add_zero]
  show ((List.flatMap R (List.range h)).map _).sum = _
  rw [flat_sum]
  unfold totL
  congr 1
  refine List.map_congr_left fun k hk => ?_
  have hk' : k < h := by simpa using hk
  have := G.ents hk'
  conv => rhs; rw [← this]
  unfold entF
  rw [List.length_flatMap]
  rfl
theorem totL_upd (h : Nat) (L : Nat → List α) (k : Nat) (hk : k < h) (l : List α) : totL h (upd L k l) + (L k).length = totL h L + l.length := by
  unfold totL
  induction h with
  | zero => omega
  | succ h ih =>
    rw [List.range_succ, List.map_append, List.map_append, List.sum_append, List.sum_append]
    simp only [List.map_cons, List.map_nil, List.sum_cons, List.sum_nil, Nat.add_zero]
    by_cases e : k = h
    · subst e
      rw [upd_same]
      have : ∀ n, n ≤ k → ((List.range n).map fun i => (upd L k l i).length) = (List.range n).map fun i => (L i).length := by
        intro n hn
        refine List.map_congr_left fun i hi => ?_
        rw [upd_ne _ _ (by have := List.mem_range.1 hi; omega)]
      rw [this k (Nat.le_refl _)]
      omega
    · rw [upd_ne _ _ (fun e' => e e'.symm)]
      have := ih (by omega)
      omega
end
end
section
set_option linter.unusedVariables false
set_option maxRecDepth 20000
set_option linter.unusedSimpArgs false
set_option linter.unusedSectionVars false
section
variable {α : Type}
def wayF (T : List (Bkt α)) : Nat → Int → List Nat
  | 0, _ => []
  | n + 1, b => if b < 0 then [] else b.toNat :: wayF T n (bkt T b.toNat).2
theorem wayF_eq {T : List (Bkt α)} : ∀ (n : Nat) (b : Int) (p : List Nat), Way T b p → p.length ≤ n → wayF T n b = p
  | 0, b, p, h, hl => by
    obtain rfl : p = [] := List.length_eq_zero_iff.1 (by omega)
    rfl
  | n + 1, b, [], h, hl => by
    have h1 : b = -1 := h
    unfold wayF
    rw [if_pos (by omega)]
  | n + 1, b, c :: p, h, hl => by
    obtain ⟨h1, x, hx, hp⟩ := h
    unfold wayF
    rw [if_neg (by omega), h1, Int.toNat_natCast, bkt_of hx, wayF_eq n _ p hp (by simpa using hl)]
def pathOf (T : List (Bkt α)) (k : Nat) : List Nat := wayF T 501 (k : Int)
/-- the entries of a run -/
def runE (T : List (Bkt α)) (k : Nat) : List α := entF T (pathOf T k)
def emptyT (h : Nat) : List (Bkt α) := List.replicate h ([], -1)
structure Full (V : α → Prop) (H : α → Nat) (h r : Nat) (T : List (Bkt α)) (R : Nat → List Nat) (L : Nat → List α) : Prop where
  good : Good h r T R L
  tight : Tight h T R
  h1 : 1 ≤ h
  h2 : h ≤ 100
  r2 : r ≤ 20
  hom : ∀ k, k < h → ∀ x ∈ L k, V x ∧ H x % h = k
  nod : ∀ k, k < h → (L k).Nodup
  c500 : cntT T ≤ 500
variable {V : α → Prop} {H : α → Nat} {h r : Nat} {T : List (Bkt α)} {R : Nat → List Nat} {L : Nat → List α}
theorem tot_ge (h : Nat) (L : Nat → List α) {k : Nat} (hk : k < h) : (L k).length ≤ totL h L := by
  have := totL_upd h L k hk []
  simp at this
  omega
theorem need_le_max (r n : Nat) (hr : 0 < r) : needC r n ≤ max 1 n := by
  unfold needC
  have : (n + r - 1) / r ≤ n := by
    rw [Nat.div_le_iff_le_mul_add_pred hr]
    have := Nat.mul_le_mul_right n (show 1 ≤ r from hr)
    omega
  omega
theorem Full.len_le (F : Full V H h r T R L) {k : Nat} (hk : k < h) : (L k).length ≤ 500 := by
  have h1 := tot_ge h L hk
  have h2 := F.good.cnt
  have h3 := F.c500
  omega
theorem Full.path_le (F : Full V H h r T R L) {k : Nat} (hk : k < h) : (R k).length ≤ 501 := by
  have h1 := F.len_le hk
  have h2 := need_le_max r (L k).length F.good.r0
  rw [F.good.size k hk]
  omega
theorem Full.path_eq (F : Full V H h r T R L) {k : Nat} (hk : k < h) : pathOf T k = R k := wayF_eq _ _ _ (F.good.way hk) (F.path_le hk)
theorem Full.run_eq (F : Full V H h r T R L) {k : Nat} (hk : k < h) : runE T k = L k := by
  unfold runE
  rw [F.path_eq hk, F.good.ents hk]
/-- a table: some runs and entries make it whole -/
def FullT (V : α → Prop) (H : α → Nat) (h r : Nat) (T : List (Bkt α)) : Prop := ∃ R L, Full V H h r T R L
theorem FullT.way (F : FullT V H h r T) {k : Nat} (hk : k < h) : Way T (k : Int) (pathOf T k) := by
  obtain ⟨R, L, F⟩ := F
  rw [F.path_eq hk]
  exact F.good.way hk
theorem FullT.path (F : FullT V H h r T) {k : Nat} (hk : k < h) : Path T (pathOf T k) ∧ 0 < (pathOf T k).length ∧ (pathOf T k).length ≤ 501 := by
  obtain ⟨R, L, F⟩ := F
  rw [F.path_eq hk]
  exact ⟨F.good.path hk, F.good.len_pos hk, F.path_le hk⟩
theorem FullT.run_le (F : FullT V H h r T) {k : Nat} (hk : k < h) : (runE T k).length ≤ 500 := by
  obtain ⟨R, L, F⟩ := F
  rw [F.run_eq hk]
  exact F.len_le hk
theorem FullT.hom (F : FullT V H h r T) {k : Nat} (hk : k < h) : ∀ x ∈ runE T k, V x ∧ H x % h = k := by
  obtain ⟨R, L, F⟩ := F
  rw [F.run_eq hk]
  exact F.hom k hk
def insF (h r : Nat) (T : List (Bkt α)) (k : Nat) (x : α) : List (Bkt α) := withF h r T (pathOf T k) (runE T k ++ [x])
def remF (h r : Nat) (T : List (Bkt α)) (k i : Nat) : List (Bkt α) := withF h r T (pathOf T k) ((runE T k).eraseIdx i)
theorem FullT.more (F : FullT V H h r T) {k : Nat} (hk : k < h) {x : α} (hx : V x) (hh : H x % h = k) (hn : x ∉ runE T k) (hc : cntT T < 500) :
    putF h r T ((pathOf T k).getD ((pathOf T k).length - 1) 0) x = insF h r T k x ∧ FullT V H h r (insF h r T k x) ∧ cntT (insF h r T k x) = cntT T + 1 ∧
      (∀ j, j < h → ∀ y, y ∈ runE (insF h r T k x) j → y ∈ runE T j ∨ y = x) := by
  obtain ⟨R, L, F⟩ := F
  unfold insF
  rw [F.run_eq hk, F.path_eq hk] at *
  obtain ⟨e, R', G', t'⟩ := F.good.more F.tight hk x
  have hcnt : cntT (withF h r T (R k) (L k ++ [x])) = cntT T + 1 := by
    rw [G'.cnt, F.good.cnt]
    have := totL_upd h L k hk (L k ++ [x])
    rw [List.length_append, List.length_singleton] at this
    omega
  have F' : Full V H h r (withF h r T (R k) (L k ++ [x])) R' (upd L k (L k ++ [x])) := by
    refine ⟨G', t', F.h1, F.h2, F.r2, fun j hj y hy => ?_, fun j hj => ?_, by omega⟩
    · by_cases ej : j = k
      · subst ej
        rw [upd_same] at hy
        rcases List.mem_append.1 hy with h1 | h1
        · exact F.hom _ hj y h1
        · obtain rfl := List.mem_singleton.1 h1
          exact ⟨hx, hh⟩
      · rw [upd_ne _ _ ej] at hy
        exact F.hom _ hj y hy
    · by_cases ej : j = k
      · subst ej
        rw [upd_same, List.nodup_append]
        refine ⟨F.nod _ hj, by simp, fun a ha b hb e'' => ?_⟩
        have hb' := List.mem_singleton.1 hb
        rw [e'', hb'] at ha
        exact hn ha
      · rw [upd_ne _ _ ej]
        exact F.nod _ hj
  refine ⟨e, ⟨R', _, F'⟩, hcnt, fun j hj y hy => ?_⟩
  rw [F'.run_eq hj] at hy
  rw [F.run_eq hj]
  by_cases ej : j = k
  · subst ej
    rw [upd_same] at hy
    rcases List.mem_append.1 hy with h1 | h1
    · exact .inl h1
    · exact .inr (List.mem_singleton.1 h1)
  · rw [upd_ne _ _ ej] at hy
    exact .inl hy
theorem FullT.less (F : FullT V H h r T) {k i : Nat} (hk : k < h) (hi : i < (runE T k).length) :
    trimE h (T.length - h) (fillF r (pathOf T k) ((runE T k).eraseIdx i) (pathOf T k).length T) = remF h r T k i ∧ FullT V H h r (remF h r T k i) := by
  obtain ⟨R, L, F⟩ := F
  unfold remF
  rw [F.run_eq hk, F.path_eq hk] at *
  have hl : ((L k).eraseIdx i).length ≤ (L k).length := List.length_eraseIdx_le ..
  obtain ⟨e, R', G', t'⟩ := F.good.less hk hl
  refine ⟨e, R', _, G', t', F.h1, F.h2, F.r2, fun j hj y hy => ?_, fun j hj => ?_, ?_⟩
  · by_cases ej : j = k
    · subst ej
      rw [upd_same] at hy
      exact F.hom _ hj y (List.mem_of_mem_eraseIdx hy)
    · rw [upd_ne _ _ ej] at hy
      exact F.hom _ hj y hy
  · by_cases ej : j = k
    · subst ej
      rw [upd_same]
      exact (F.nod _ hj).sublist (List.eraseIdx_sublist ..)
    · rw [upd_ne _ _ ej]
      exact F.nod _ hj
  · rw [G'.cnt]
    have h1 := F.good.cnt
    have h2 := F.c500
    have h3 := totL_upd h L k hk ((L k).eraseIdx i)
    omega
theorem Full.empty (V : α → Prop) (H : α → Nat) {h r : Nat} (h1 : 1 ≤ h) (h2 : h ≤ 100) (r1 : 1 ≤ r) (r2 : r ≤ 20) : Full V H h r (emptyT h : List (Bkt α)) (fun k => [k]) (fun _ => []) := by
  have hn : needC r 0 = 1 := by
    unfold needC
    have : (0 + r - 1) / r = 0 := Nat.div_eq_of_lt (by omega)
    omega
  have G : Good h r (emptyT h : List (Bkt α)) (fun k => [k]) (fun _ => []) := by
    refine ⟨by omega, by simp [emptyT], fun k hk => rfl, fun k hk => by simp [hn], fun k hk i b hb => ?_, fun k hk k' hk' i j b hi hj => ?_, fun b hb hf => ?_⟩
    · cases i with
      | zero =>
        simp at hb
        subst hb
        simp [emptyT, hk, chunk, nextOf]
      | succ i => simp at hb
    · cases i with
      | zero =>
        cases j with
        | zero =>
          simp at hi hj
          exact ⟨by omega, rfl⟩
        | succ j => simp at hj
      | succ i => simp at hi
    · simp [emptyT] at hb
      exact absurd rfl (hf b hb 0)
  refine ⟨G, .inl (by simp [emptyT]), h1, h2, r2, fun k hk x hx => by simp at hx, fun k hk => by simp, ?_⟩
  rw [G.cnt]
  unfold totL
  have : ∀ n, ((List.range n).map fun k : Nat => ([] : List α).length).sum = 0 := fun n => by
    induction n with
    | zero => rfl
    | succ n ih => rw [List.range_succ, List.map_append, List.sum_append, ih]; rfl
  rw [this]
  omega
theorem FullT.empty (V : α → Prop) (H : α → Nat) {h r : Nat} (h1 : 1 ≤ h) (h2 : h ≤ 100) (r1 : 1 ≤ r) (r2 : r ≤ 20) : FullT V H h r (emptyT h : List (Bkt α)) := ⟨_, _, Full.empty V H h1 h2 r1 r2⟩
theorem empty_run (V : α → Prop) (H : α → Nat) {h r : Nat} (h1 : 1 ≤ h) (h2 : h ≤ 100) (r1 : 1 ≤ r) (r2 : r ≤ 20) {k : Nat} (hk : k < h) : runE (emptyT h : List (Bkt α)) k = [] := (Full.empty V H h1 h2 r1 r2).run_eq hk
theorem empty_cnt (h : Nat) : cntT (emptyT h : List (Bkt α)) = 0 := by
  unfold cntT emptyT
  rw [List.map_replicate]
  induction h with
  | zero => rfl
  | succ h ih => rw [List.replicate_succ, List.sum_cons, ih]; rfl
/-- all entries, home by home -/
def allE (h : Nat) (T : List (Bkt α)) : List α := (List.range h).flatMap (runE T)
/-- the table of entries: each is put into its home -/
def regF (H : α → Nat) (h r : Nat) (E : List α) : List (Bkt α) := E.foldl (fun T x => insF h r T (H x % h) x) (emptyT h)
theorem regF_snoc (H : α → Nat) (h r : Nat) (E : List α) (x : α) : regF H h r (E ++ [x]) = insF h r (regF H h r E) (H x % h) x := by
  unfold regF
  rw [List.foldl_append]
  rfl
theorem FullT.all_nodup (F : FullT V H h r T) : (allE h T).Nodup := by
  obtain ⟨R, L, F⟩ := F
  unfold allE List.Nodup
  rw [List.pairwise_flatMap]
  refine ⟨fun k hk => ?_, ?_⟩
  · have hk' : k < h := by simpa using hk
    rw [F.run_eq hk']
    exact F.nod k hk'
  · rw [List.pairwise_iff_getElem]
    intro k k' hk hk' hlt x hx y hy e
    simp only [List.length_range] at hk hk'
    rw [List.getElem_range] at hx hy
    rw [F.run_eq hk] at hx
    rw [F.run_eq hk'] at hy
    subst e
    have h1 := (F.hom k hk x hx).2
    have h2 := (F.hom k' hk' x hy).2
    omega
theorem FullT.all_len (F : FullT V H h r T) : (allE h T).length ≤ 500 := by
  obtain ⟨R, L, F⟩ := F
  have h1 : (allE h T).length = totL h L := by
    unfold allE totL
    rw [List.length_flatMap]
    congr 1
    refine List.map_congr_left fun k hk => ?_
    have hk' : k < h := by simpa using hk
    rw [F.run_eq hk']
  rw [h1, ← F.good.cnt]
  exact F.c500
theorem FullT.all_valid (F : FullT V H h r T) : ∀ x ∈ allE h T, V x := by
  intro x hx
  obtain ⟨k, hk, hx⟩ := List.mem_flatMap.1 hx
  exact (F.hom (by simpa using hk) x hx).1
/-- the table of entries that are all different -/
theorem regF_full (V : α → Prop) (H : α → Nat) {h r : Nat} (h1 : 1 ≤ h) (h2 : h ≤ 100) (r1 : 1 ≤ r) (r2 : r ≤ 20) {E : List α} (hE : E.Nodup) (hlen : E.length ≤ 500) (hV : ∀ x ∈ E, V x) :
    ∀ j, j ≤ E.length → FullT V H h r (regF H h r (E.take j)) ∧ cntT (regF H h r (E.take j)) = j ∧ ∀ k, k < h → ∀ y, y ∈ runE (regF H h r (E.take j)) k → y ∈ E.take j := by
  intro j
  induction j with
  | zero =>
    intro _
    rw [List.take_zero]
    exact ⟨FullT.empty V H h1 h2 r1 r2, empty_cnt h, fun k hk y hy => by
      rw [show regF H h r ([] : List α) = emptyT h from rfl, empty_run V H h1 h2 r1 r2 hk] at hy
      exact hy⟩
  | succ j ih =>
    intro hj
    obtain ⟨f1, f2, f3⟩ := ih (by omega)
    have hx : E[j]? = some E[j] := List.getElem?_eq_getElem (by omega)
    have et : E.take (j + 1) = E.take j ++ [E[j]] := by rw [List.take_add_one, hx]; rfl
    have hk : H E[j] % h < h := Nat.mod_lt _ (by omega)
    have hnot : E[j] ∉ E.take j := by
      intro hm
      obtain ⟨i, hi, e⟩ := List.mem_iff_getElem.1 hm
      rw [List.length_take] at hi
      rw [List.getElem_take] at e
      have := (List.pairwise_iff_getElem.1 hE) i j (by omega) (by omega) (by omega)
      exact this e
    obtain ⟨_, g2, g3, g4⟩ := f1.more hk (hV _ (List.getElem_mem _)) rfl (fun hm => hnot (f3 _ hk _ hm)) (by omega)
    rw [et, regF_snoc]
    refine ⟨g2, by omega, fun k hk' y hy => ?_⟩
    rcases g4 k hk' y hy with h5 | h5
    · exact List.mem_append.2 (.inl (f3 k hk' y h5))
    · exact List.mem_append.2 (.inr (by simp [h5]))
/-- one entry more on the way -/
theorem regF_step (V : α → Prop) (H : α → Nat) {h r : Nat} (h1 : 1 ≤ h) (h2 : h ≤ 100) (r1 : 1 ≤ r) (r2 : r ≤ 20) {E : List α} (hE : E.Nodup) (hlen : E.length ≤ 500) (hV : ∀ x ∈ E, V x) {j : Nat} {x : α} (hx : E[j]? = some x) :
    let T := regF H h r (E.take j)
    FullT V H h r T ∧ cntT T < 500 ∧ x ∉ runE T (H x % h) ∧ V x ∧ putF h r T ((pathOf T (H x % h)).getD ((pathOf T (H x % h)).length - 1) 0) x = regF H h r (E.take (j + 1)) ∧ insF h r T (H x % h) x = regF H h r (E.take (j + 1)) := by
  intro T
  have hj := (List.getElem?_eq_some_iff.1 hx).1
  obtain ⟨f1, f2, f3⟩ := regF_full V H h1 h2 r1 r2 hE hlen hV j (by omega)
  have hk : H x % h < h := Nat.mod_lt _ (by omega)
  have hnot : x ∉ E.take j := by
    intro hm
    obtain ⟨i, hi, e⟩ := List.mem_iff_getElem.1 hm
    rw [List.length_take] at hi
    rw [List.getElem_take] at e
    have := (List.pairwise_iff_getElem.1 hE) i j (by omega) (by omega) (by omega)
    have hx' := (List.getElem?_eq_some_iff.1 hx).2
    exact this (by rw [e, hx'])
  have hv := hV x (List.mem_of_getElem? hx)
  have hno : x ∉ runE T (H x % h) := fun hm => hnot (f3 _ hk _ hm)
  obtain ⟨g1, _, _, _⟩ := f1.more hk hv rfl hno (by omega)
  have et : E.take (j + 1) = E.take j ++ [x] := by rw [List.take_add_one, hx]; rfl
  refine ⟨f1, by show cntT (regF H h r (E.take j)) < 500; omega, hno, hv, ?_, ?_⟩
  · rw [et, regF_snoc]
    exact g1
  · rw [et, regF_snoc]
end
end
end Go.Proofs.YtcbinafokhekmaaDoor
