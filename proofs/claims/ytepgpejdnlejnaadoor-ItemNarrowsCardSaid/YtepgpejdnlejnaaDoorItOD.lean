/- The order of rows: a plain law. -/
import Derived.Test.YtepgpejdnlejnaaDoorItOC
namespace Go.Proofs.YtepgpejdnlejnaaDoor
open Go.RowKit
set_option linter.unusedVariables false
set_option linter.unusedSimpArgs false
set_option linter.unusedSectionVars false
set_option maxRecDepth 20000

/-- an order, told by -1, 0, 1 -/
structure Ord3 {α : Type} (c : α → α → Int) : Prop where
  rng : ∀ x y, c x y = -1 ∨ c x y = 0 ∨ c x y = 1
  anti : ∀ x y, c x y = - c y x
  eq0 : ∀ x y, c x y = 0 ↔ x = y
  trans : ∀ x y z, c x y ≤ 0 → c y z ≤ 0 → c x z ≤ 0
def lexL {α : Type} (c : α → α → Int) : List α → List α → Int
  | [], [] => 0
  | [], _ :: _ => -1
  | _ :: _, [] => 1
  | x :: l, y :: m => if c x y = 0 then lexL c l m else c x y
def lex2 {α β : Type} (c : α → α → Int) (d : β → β → Int) (x y : α × β) : Int := if c x.1 y.1 = 0 then d x.2 y.2 else c x.1 y.1
theorem ord_less : Ord3 lessF := by
  refine ⟨fun x y => ?_, fun x y => ?_, fun x y => ?_, fun x y z => ?_⟩ <;> unfold lessF <;> (repeat' split) <;> omega
theorem ord_lex2 {α β : Type} {c : α → α → Int} {d : β → β → Int} (hc : Ord3 c) (hd : Ord3 d) : Ord3 (lex2 c d) := by
  refine ⟨fun x y => ?_, fun x y => ?_, fun x y => ?_, fun x y z => ?_⟩
  · unfold lex2
    split
    · exact hd.rng _ _
    · exact hc.rng _ _
  · unfold lex2
    have h1 := hc.anti x.1 y.1
    by_cases h : c x.1 y.1 = 0
    · rw [if_pos h, if_pos (by omega)]; exact hd.anti _ _
    · rw [if_neg h, if_neg (by omega)]; exact h1
  · obtain ⟨x1, x2⟩ := x
    obtain ⟨y1, y2⟩ := y
    unfold lex2
    simp only [Prod.mk.injEq]
    by_cases h : c x1 y1 = 0
    · rw [if_pos h, hd.eq0, ← hc.eq0 x1 y1]
      simp [h]
    · rw [if_neg h, ← hc.eq0 x1 y1]
      simp [h]
  · obtain ⟨x1, x2⟩ := x
    obtain ⟨y1, y2⟩ := y
    obtain ⟨z1, z2⟩ := z
    unfold lex2
    simp only
    intro h1 h2
    by_cases a : c x1 y1 = 0
    · rw [if_pos a] at h1
      obtain rfl := (hc.eq0 _ _).1 a
      by_cases b : c x1 z1 = 0
      · rw [if_pos b] at h2 ⊢
        exact hd.trans _ _ _ h1 h2
      · rw [if_neg b] at h2 ⊢
        exact h2
    · rw [if_neg a] at h1
      by_cases b : c y1 z1 = 0
      · obtain rfl := (hc.eq0 _ _).1 b
        rw [if_neg a]
        exact h1
      · rw [if_neg b] at h2
        have h3 := hc.trans _ _ _ h1 h2
        have h4 : ¬ c x1 z1 = 0 := fun e => by
          obtain rfl := (hc.eq0 _ _).1 e
          have := hc.anti x1 y1
          have := hc.rng x1 y1
          omega
        rw [if_neg h4]
        exact h3
theorem ord_lexL {α : Type} {c : α → α → Int} (hc : Ord3 c) : Ord3 (lexL c) := by
  refine ⟨?_, ?_, ?_, ?_⟩
  · intro x
    induction x with
    | nil => intro y; cases y <;> simp [lexL]
    | cons a x ih =>
      intro y
      cases y with
      | nil => simp [lexL]
      | cons b y =>
        simp only [lexL]
        split
        · exact ih y
        · exact hc.rng _ _
  · intro x
    induction x with
    | nil => intro y; cases y <;> simp [lexL]
    | cons a x ih =>
      intro y
      cases y with
      | nil => simp [lexL]
      | cons b y =>
        have h1 := hc.anti a b
        simp only [lexL]
        by_cases h : c a b = 0
        · rw [if_pos h, if_pos (by omega)]; exact ih y
        · rw [if_neg h, if_neg (by omega)]; exact h1
  · intro x
    induction x with
    | nil => intro y; cases y <;> simp [lexL]
    | cons a x ih =>
      intro y
      cases y with
      | nil => simp [lexL]
      | cons b y =>
        simp only [lexL, List.cons.injEq]
        by_cases h : c a b = 0
        · rw [if_pos h, ih, ← hc.eq0 a b]
          simp [h]
        · rw [if_neg h, ← hc.eq0 a b]
          simp [h]
  · intro x
    induction x with
    | nil => intro y z h1 h2; cases y <;> cases z <;> simp [lexL] at *
    | cons a x ih =>
      intro y z
      cases y with
      | nil => intro h1 h2; simp [lexL] at h1
      | cons b y =>
        cases z with
        | nil => intro h1 h2; simp [lexL] at h2
        | cons d z =>
          simp only [lexL]
          intro h1 h2
          by_cases p : c a b = 0
          · rw [if_pos p] at h1
            obtain rfl := (hc.eq0 _ _).1 p
            by_cases q : c a d = 0
            · rw [if_pos q] at h2 ⊢
              exact ih y z h1 h2
            · rw [if_neg q] at h2 ⊢
              exact h2
          · rw [if_neg p] at h1
            by_cases q : c b d = 0
            · obtain rfl := (hc.eq0 _ _).1 q
              rw [if_neg p]
              exact h1
            · rw [if_neg q] at h2
              have h3 := hc.trans _ _ _ h1 h2
              have h4 : ¬ c a d = 0 := fun e => by
                obtain rfl := (hc.eq0 _ _).1 e
                have := hc.anti a b
                have := hc.rng a b
                omega
              rw [if_neg h4]
              exact h3
def lessU (a b : UInt8) : Int := lessF a.toNat b.toNat
theorem ord_lessU : Ord3 lessU := by
  refine ⟨fun x y => ord_less.rng _ _, fun x y => ord_less.anti _ _, fun x y => ?_, fun x y z => ord_less.trans _ _ _⟩
  unfold lessU
  rw [ord_less.eq0]
  exact ⟨fun h => UInt8.toNat_inj.1 (by omega), fun h => by rw [h]⟩
theorem texts_lex : ∀ (s t : List UInt8), (if Op.bytesLess s t = true then (-1 : Int) else if s = t then 0 else 1) = lexL lessU s t
  | [], [] => by simp [Op.bytesLess, lexL]
  | [], y :: t => by simp [Op.bytesLess, lexL]
  | x :: s, [] => by simp [Op.bytesLess, lexL]
  | x :: s, y :: t => by
    have ih := texts_lex s t
    simp only [lexL]
    by_cases h : x = y
    · subst h
      rw [if_pos ((ord_lessU.eq0 _ _).2 rfl), ← ih]
      simp [Op.bytesLess]
    · rw [if_neg (fun e => h ((ord_lessU.eq0 _ _).1 e))]
      unfold lessU lessF
      by_cases hl : x < y
      · have := UInt8.lt_iff_toNat_lt.1 hl
        have e1 : Op.bytesLess (x :: s) (y :: t) = true := by simp [Op.bytesLess, hl]
        rw [if_pos e1, if_pos (by omega)]
      · have h3 : ¬ x.toNat < y.toNat := fun h => hl (UInt8.lt_iff_toNat_lt.2 h)
        have h4 : x.toNat ≠ y.toNat := fun e => h (UInt8.toNat_inj.1 e)
        have e1 : ¬ Op.bytesLess (x :: s) (y :: t) = true := by simp [Op.bytesLess, hl, h]
        have e2 : ¬ x :: s = y :: t := by simp [h]
        rw [if_neg e1, if_neg e2, if_neg (by omega), if_pos (by omega)]
theorem ord_texts : Ord3 textsF := by
  have e : ∀ s t, textsF s t = lexL lessU s.toList t.toList := fun s t => texts_lex _ _
  have o := ord_lexL ord_lessU
  refine ⟨fun x y => by rw [e]; exact o.rng _ _, fun x y => by rw [e, e]; exact o.anti _ _, fun x y => ?_, fun x y z => by rw [e, e, e]; exact o.trans _ _ _⟩
  rw [e, o.eq0]
  constructor
  · intro h
    rw [Lib.toList_data, Lib.toList_data] at h
    exact ByteArray.ext (Array.ext' h)
  · intro h; rw [h]
theorem ord_cmp : Ord3 cmpF := by
  have e : ∀ x y, cmpF x y = lex2 lessF (lex2 lessF textsF) x y := fun x y => by
    unfold cmpF lex2 firstNZ firstNZ firstNZ firstNZ
    by_cases h1 : lessF x.1 y.1 = 0
    · rw [if_pos h1, if_pos h1]
      by_cases h2 : lessF x.2.1 y.2.1 = 0
      · rw [if_pos h2, if_pos h2]
        by_cases h3 : textsF x.2.2 y.2.2 = 0
        · rw [if_pos h3, h3]
        · rw [if_neg h3]
      · rw [if_neg h2, if_neg h2]
    · rw [if_neg h1, if_neg h1]
  have := ord_lex2 ord_less (ord_lex2 ord_less ord_texts)
  rwa [← show cmpF = lex2 lessF (lex2 lessF textsF) from funext fun x => funext fun y => e x y] at this
theorem ord_rows : Ord3 crF := by
  have e : ∀ l m, crF l m = lexL cmpF l m := by
    intro l
    induction l with
    | nil => intro m; cases m <;> rfl
    | cons x l ih =>
      intro m
      cases m with
      | nil => rfl
      | cons y m => simp only [crF, lexL, ih]
  have := ord_lexL ord_cmp
  rwa [← show crF = lexL cmpF from funext fun x => funext fun y => e x y] at this
end Go.Proofs.YtepgpejdnlejnaaDoor
