/- ItXK; ItXL; ItOA (merged by group.py) -/
import Derived.Test.YtepgpejdnlejnaaDoorQ14
import Derived.Test.YtepgpejdnlejnaaDoorQ15
import Derived.Test.YtepgpejdnlejnaaDoorQ07
import Derived.Test.YtepgpejdnlejnaaDoorShelf
import Derived.Test.YtepgpejdnlejnaaDoorQ02
import Derived.Laws.Cover1
import Derived.Deep.RegionHeld3
namespace Go.Proofs.YtepgpejdnlejnaaDoor
section
open Go.RowKit
set_option linter.unusedVariables false
set_option linter.unusedSimpArgs false
set_option linter.unusedSectionVars false
set_option maxRecDepth 100000
attribute [local go_sem] Oper.semAt_some

theorem nib2_len : ∀ {t r' : List UInt8} {d : UInt8}, nib2 t = some (d, r') → r'.length ≤ t.length
  | [], _, _, h => by cases h
  | [a], _, _, h => by cases h
  | a :: b :: r, r', d, h => by
    rw [nib2] at h
    cases ha : nibD a with
    | none => rw [ha] at h; cases h
    | some x =>
      cases hb : nibD b with
      | none => rw [ha, hb] at h; cases h
      | some y =>
        rw [ha, hb] at h
        simp only at h
        split at h
        · cases h
        · injection h with h
          injection h with _ h
          subst h
          simp only [List.length_cons]
          omega
theorem escR_len : ∀ {t r' : List UInt8} {d : UInt8}, escR t = some (d, r') → r'.length ≤ t.length
  | [], _, _, h => by cases h
  | c :: r, r', d, h => by
    rw [escR] at h
    split at h
    · injection h with h
      injection h with _ h
      subst h
      simp
    · split at h
      · have := nib2_len h
        simp only [List.length_cons]
        omega
      · cases h
theorem quoteR_fuel : ∀ (n m : Nat) (t : List UInt8), t.length < n → t.length < m → quoteR n t = quoteR m t
  | 0, m, t, h, _ => by omega
  | n + 1, 0, t, _, h => by omega
  | n + 1, m + 1, [], _, _ => rfl
  | n + 1, m + 1, c :: r, h, h' => by
    rw [quoteR_cons, quoteR_cons]
    split
    · rfl
    · cases hx : (if c < 32 ∨ 126 < c then none else if c = 92 then escR r else some (c, r)) with
      | none => rfl
      | some z =>
        obtain ⟨d, r'⟩ := z
        simp only
        have hlen : r'.length ≤ r.length := by
          split at hx
          · cases hx
          · split at hx
            · exact escR_len hx
            · injection hx with hx
              injection hx with _ hx
              subst hx
              exact Nat.le_refl _
        simp only [List.length_cons] at h h'
        rw [quoteR_fuel n m r' (by omega) (by omega)]
theorem dgs_len (t : List UInt8) : (dgs t).length ≤ t.length := by
  have hp : dgs t <+: t := (List.takeWhile_prefix _).trans (List.take_prefix _ _)
  exact hp.length_le
theorem mag_le (m : Bool) (t : List UInt8) : 0 ≤ (magF m t).2 ∧ (magF m t).2 ≤ (t.length : Int) + (if m then 1 else 0) := by
  have := dgs_len t
  unfold magF
  split
  · simp only
    cases m <;> simp <;> omega
  · simp only
    cases m <;> simp <;> omega
theorem num_le (t : List UInt8) : 0 ≤ (numF t).2 ∧ (numF t).2 ≤ (t.length : Int) := by
  unfold numF
  split
  · rename_i h
    cases t with
    | nil => simp at h
    | cons c r =>
      have := mag_le true r
      simp only [List.tail_cons, List.length_cons] at this ⊢
      simp only [if_true] at this
      omega
  · have := mag_le false t
    simp only [Bool.false_eq_true, if_false] at this
    omega
theorem res_cell2 {fn : Func} {p u : Tmp} (h : fn.results = #[.cell p 29, .tmp u]) (tmps : Array Value) (w : World) (g : Nat) (cs : Array Value) (y : Value) (hp : tmps.getD p undef = .pointer (some ⟨g, 0, none⟩)) (hu : tmps.getD u undef = y) (hg : BoxN w g 29 cs) (hsz : cs.size = 3 := by rfl) :
    (results fn tmps).run Tryd.prog w = .ok (.tuple #[.agg cs, y]) w := by
  rw [results_cell_tmp h, hp, hu]
  simp only [asAddr, Sem.run_pure, Result.andThen_ok]
  rw [run_loadVar_row w g 29 29 cs (0, 0) _ hg Tryd.underlying29 rfl (by rw [value_info, hsz])]
  rfl
/-- what Literal tells -/
def LitPost (s : ByteArray) (n : Nat) (w : World) (e : Ending) (w' : World) : Prop :=
  Ext w w' ∧ ((∃ v n', literalR (s.data.toList.drop n) = some (v, s.data.toList.drop n') ∧ n' ≤ s.size ∧ n < n' ∧ e = .returned (.tuple #[(ofP v).v, .int .i64 ((n' : Int) - n)])) ∨
    (literalR (s.data.toList.drop n) = none ∧ ∃ a b c, e = .returned (.tuple #[.agg #[.int .i64 a, .int .i64 b, .string c], .int .i64 0])))
set_option maxHeartbeats 8000000 in
theorem literal_any (s : ByteArray) (n : Nat) (w : World) (hn : n ≤ s.size) (hs : s.size ≤ 1000000) :
    Calls Tryd.prog 81 #[.string s, .int .i64 n] w (LitPost s n w) := by
  have hx0 := (Ext.refl w).alloc (.cells #[.int .i64 0, .int .i64 0, .string ⟨#[]⟩] 29)
  have hB0 := BoxN.new w 29 #[.int .i64 0, .int .i64 0, .string ⟨#[]⟩]
  have hel : s.data.toList.length = s.size := by simp
  by_cases q1 : n < s.size ∧ byteU s n = 34
  · obtain ⟨hlt, q1⟩ := q1
    have hread : literalR (s.data.toList.drop n) = (quoteR (s.size + 1) (s.data.toList.drop (n + 1))).map fun z => ((2, 0, z.1), z.2) := by
      unfold literalR
      rw [byteU_drop s n hlt, q1, if_pos (by rfl), List.tail_cons]
      rw [quoteR_fuel _ (s.size + 1) _ (by simp) (by simp; omega)]
    have HRD := Lib.hid hread
    have i0 := fun W => str_at s n n rfl hlt W
    rw [q1, show (((34 : UInt8).toNat : Nat) : Int) = 34 from rfl] at i0
    have hQ := fun W => quote_any s n W hlt q1 hs
    have c1 : (n : Int) < s.size := by omega
    clear q1 hread hel
    go_enter Tryd.func81, Tryd.ntmps81
    go_wp2_with (fail)
    go_at_call 105
    refine (hQ _).mono ?_
    rintro e w1 ⟨hx1, ⟨d, n', h1, h2, h3, rfl⟩ | ⟨h1, rfl⟩⟩
    · have hB1 := hB0.ext hx1
      have r0 : w1.cell? ⟨w.heap.size, 0, none⟩ = some (.int .i64 0) := hB1.cell rfl
      have r1 : w1.cell? ⟨w.heap.size, 1, none⟩ = some (.int .i64 0) := hB1.cell rfl
      have r2 : w1.cell? ⟨w.heap.size, 2, none⟩ = some (.string ⟨#[]⟩) := hB1.cell rfl
      have f0 := hB1.frozen 0
      have f1 := hB1.frozen 1
      have f2 := hB1.frozen 2
      have hB2 := ((hB1.set 0 (.int .i64 2)).set 1 (.int .i64 0)).set 2 (.string ⟨d.toArray⟩)
      have t0 : (((w1.setCell ⟨w.heap.size, 0, none⟩ (.int .i64 2)).setCell ⟨w.heap.size, 1, none⟩ (.int .i64 0)).setCell ⟨w.heap.size, 2, none⟩ (.string ⟨d.toArray⟩)).cell? ⟨w.heap.size, 0, none⟩ = some (.int .i64 2) := hB2.cell rfl
      have hxF := (((hx0.trans hx1).setCell (p := ⟨w.heap.size, 0, none⟩) (Nat.le_refl _) (.int .i64 2)).setCell (p := ⟨w.heap.size, 1, none⟩) (Nat.le_refl _) (.int .i64 0)).setCell (p := ⟨w.heap.size, 2, none⟩) (Nat.le_refl _) (.string ⟨d.toArray⟩)
      have hpost : LitPost s n w (.returned (.tuple #[.agg #[.int .i64 2, .int .i64 0, .string ⟨d.toArray⟩], .int .i64 ((n' : Int) - n)])) _ := ⟨hxF, .inl ⟨(2, 0, d), n', by rw [HRD.out, h1]; rfl, h2, h3, rfl⟩⟩
      dsimp only
      go_wp2
      refine bodyPost_ret (res_cell2 rfl _ _ w.heap.size _ (.int .i64 ((n' : Int) - n)) rfl rfl hB2) rfl ?_
      exact hpost
    · have hB1 := hB0.ext hx1
      have r0 : w1.cell? ⟨w.heap.size, 0, none⟩ = some (.int .i64 0) := hB1.cell rfl
      have r1 : w1.cell? ⟨w.heap.size, 1, none⟩ = some (.int .i64 0) := hB1.cell rfl
      have r2 : w1.cell? ⟨w.heap.size, 2, none⟩ = some (.string ⟨#[]⟩) := hB1.cell rfl
      have f0 := hB1.frozen 0
      have f1 := hB1.frozen 1
      have f2 := hB1.frozen 2
      have hB2 := ((hB1.set 0 (.int .i64 2)).set 1 (.int .i64 0)).set 2 (.string ⟨#[]⟩)
      have hxF := (((hx0.trans hx1).setCell (p := ⟨w.heap.size, 0, none⟩) (Nat.le_refl _) (.int .i64 2)).setCell (p := ⟨w.heap.size, 1, none⟩) (Nat.le_refl _) (.int .i64 0)).setCell (p := ⟨w.heap.size, 2, none⟩) (Nat.le_refl _) (.string ⟨#[]⟩)
      dsimp only
      go_wp2
      refine bodyPost_ret (res_cell2 rfl _ _ w.heap.size _ (.int .i64 0) rfl rfl hB2) rfl ?_
      exact ⟨hxF, .inr ⟨by rw [HRD.out, h1]; rfl, _, _, _, rfl⟩⟩
  · have hread : literalR (s.data.toList.drop n) = if 0 < (numF (s.data.toList.drop n)).2 then some ((1, (numF (s.data.toList.drop n)).1, []), (s.data.toList.drop n).drop (numF (s.data.toList.drop n)).2.toNat) else none := by
      unfold literalR
      rw [if_neg]
      by_cases hlt : n < s.size
      · rw [byteU_drop s n hlt]
        simp only [List.head?_cons, Option.some.injEq]
        exact fun e => q1 ⟨hlt, e⟩
      · rw [drop_out s n hlt]
        simp
    have hN := fun W => rnum_any s n hn (by omega) W
    unfold numAtS at hN
    have hle := num_le (s.data.toList.drop n)
    rw [List.length_drop, hel] at hle
    rw [List.drop_drop] at hread
    obtain ⟨a, ha⟩ : ∃ a, (numF (s.data.toList.drop n)).1 = a := ⟨_, rfl⟩
    obtain ⟨b, hb⟩ : ∃ b, (numF (s.data.toList.drop n)).2 = b := ⟨_, rfl⟩
    rw [ha, hb] at hread
    rw [hb] at hle
    simp only [ha, hb] at hN
    have HRD := Lib.hid hread
    have hQ : ((n : Int) < s.size ∧ byteU s n ≠ 34 ∧ n < s.size) ∨ ¬ (n : Int) < s.size := by
      by_cases h : n < s.size
      · exact .inl ⟨by omega, fun e => q1 ⟨h, e⟩, h⟩
      · exact .inr (by omega)
    clear q1 hread hel ha hb
    rcases hQ with ⟨c1, q2, hlt⟩ | c1
    · have i0 := fun W => str_at s n n rfl hlt W
      have n34 := ne_byte q2
      rw [show (((34 : UInt8).toNat : Nat) : Int) = 34 from rfl] at n34
      generalize byteU s n = u at *
      clear q2
      go_enter Tryd.func81, Tryd.ntmps81
      have r0 : (w.alloc (.cells #[.int .i64 0, .int .i64 0, .string ⟨#[]⟩] 29)).cell? ⟨w.heap.size, 0, none⟩ = some (.int .i64 0) := hB0.cell rfl
      have r1 : (w.alloc (.cells #[.int .i64 0, .int .i64 0, .string ⟨#[]⟩] 29)).cell? ⟨w.heap.size, 1, none⟩ = some (.int .i64 0) := hB0.cell rfl
      have r2 : (w.alloc (.cells #[.int .i64 0, .int .i64 0, .string ⟨#[]⟩] 29)).cell? ⟨w.heap.size, 2, none⟩ = some (.string ⟨#[]⟩) := hB0.cell rfl
      go_wp2_with (fail)
      go_at_call 106
      refine (hN _).mono ?_
      rintro e w1 ⟨rfl, rfl⟩
      dsimp only
      go_wp2
      have hB2 := BoxN.new w 29 #[.int .i64 1, .int .i64 a, .string ⟨#[]⟩]
      refine bodyPost_ret (res_cell2 rfl _ _ w.heap.size _ (.int .i64 b) rfl rfl hB2) rfl ?_
      refine ⟨(Ext.refl w).alloc _, ?_⟩
      by_cases hb0 : 0 < b
      · have hbn : b = (b.toNat : Int) := by omega
        have e2 : b = ((n + b.toNat : Nat) : Int) - (n : Int) := by omega
        refine .inl ⟨(1, a, []), n + b.toNat, by rw [HRD.out, if_pos hb0], by omega, by omega, ?_⟩
        rw [← e2]
        rfl
      · obtain rfl : b = 0 := by omega
        exact .inr ⟨by rw [HRD.out, if_neg hb0], _, _, _, rfl⟩
    · skip
      go_enter Tryd.func81, Tryd.ntmps81
      have r0 : (w.alloc (.cells #[.int .i64 0, .int .i64 0, .string ⟨#[]⟩] 29)).cell? ⟨w.heap.size, 0, none⟩ = some (.int .i64 0) := hB0.cell rfl
      have r1 : (w.alloc (.cells #[.int .i64 0, .int .i64 0, .string ⟨#[]⟩] 29)).cell? ⟨w.heap.size, 1, none⟩ = some (.int .i64 0) := hB0.cell rfl
      have r2 : (w.alloc (.cells #[.int .i64 0, .int .i64 0, .string ⟨#[]⟩] 29)).cell? ⟨w.heap.size, 2, none⟩ = some (.string ⟨#[]⟩) := hB0.cell rfl
      go_wp2_with (fail)
      go_at_call 106
      refine (hN _).mono ?_
      rintro e w1 ⟨rfl, rfl⟩
      dsimp only
      go_wp2
      have hB2 := BoxN.new w 29 #[.int .i64 1, .int .i64 a, .string ⟨#[]⟩]
      refine bodyPost_ret (res_cell2 rfl _ _ w.heap.size _ (.int .i64 b) rfl rfl hB2) rfl ?_
      refine ⟨(Ext.refl w).alloc _, ?_⟩
      by_cases hb0 : 0 < b
      · have hbn : b = (b.toNat : Int) := by omega
        have e2 : b = ((n + b.toNat : Nat) : Int) - (n : Int) := by omega
        refine .inl ⟨(1, a, []), n + b.toNat, by rw [HRD.out, if_pos hb0], by omega, by omega, ?_⟩
        rw [← e2]
        rfl
      · obtain rfl : b = 0 := by omega
        exact .inr ⟨by rw [HRD.out, if_neg hb0], _, _, _, rfl⟩
theorem literal_none (s : ByteArray) (n : Nat) (w : World) (hn : n ≤ s.size) (hs : s.size ≤ 1000000) (hr : literalR (s.data.toList.drop n) = none) :
    Calls Tryd.prog 81 #[.string s, .int .i64 n] w fun e w' => (∃ a b c, e = .returned (.tuple #[.agg #[.int .i64 a, .int .i64 b, .string c], .int .i64 0])) ∧ Ext w w' :=
  (literal_any s n w hn hs).mono fun e w' ⟨hu, h'⟩ => by
    rcases h' with ⟨v, n', h1, _⟩ | ⟨_, h2⟩
    · rw [hr] at h1; cases h1
    · exact ⟨h2, hu⟩
theorem literal_some (s : ByteArray) (n : Nat) (w : World) (hn : n ≤ s.size) (hs : s.size ≤ 1000000) {v : VlP} {n' : Nat} (hr : literalR (s.data.toList.drop n) = some (v, s.data.toList.drop n')) (hn' : n' ≤ s.size) :
    Calls Tryd.prog 81 #[.string s, .int .i64 n] w fun e w' => e = .returned (.tuple #[(ofP v).v, .int .i64 ((n' : Int) - n)]) ∧ Ext w w' :=
  (literal_any s n w hn hs).mono fun e w' ⟨hu, h'⟩ => by
    rcases h' with ⟨v2, n2, h1, h2, h3, h4⟩ | ⟨h1, _⟩
    · rw [hr] at h1
      injection h1 with h1
      injection h1 with e1 e2
      have e3 := congrArg List.length e2
      have e4 : s.data.toList.length = s.size := by simp
      rw [List.length_drop, List.length_drop, e4] at e3
      obtain rfl : n' = n2 := by omega
      subst e1
      exact ⟨h4, hu⟩
    · rw [hr] at h1; cases h1
theorem literal_drop {s : ByteArray} {p : Nat} (hp : p ≤ s.size) : literalR (s.data.toList.drop p) = none ∨ ∃ v n', literalR (s.data.toList.drop p) = some (v, s.data.toList.drop n') ∧ n' ≤ s.size ∧ p < n' := by
  cases h : literalR (s.data.toList.drop p) with
  | none => exact .inl rfl
  | some z =>
    obtain ⟨v, r⟩ := z
    right
    have hq := literalR_inv h
    have e4 : s.data.toList.length = s.size := by simp
    have hl := congrArg List.length hq
    rw [List.length_drop, e4, List.length_append] at hl
    have hw := wrP_len v
    have hr : r = s.data.toList.drop (p + (wrP v).length) := by
      rw [← List.drop_drop, hq, List.drop_left]
    exact ⟨v, p + (wrP v).length, by rw [hr], by omega, by omega⟩
/-- what has been read so far -/
def RaRel (s : ByteArray) (l : List Vl) (p : Nat) : Prop := ∃ f, s.size + 1 ≤ f + p ∧ p ≤ s.size ∧ l.length ≤ p ∧ readAllR (s.size + 1) s.data.toList = (readAllR f (s.data.toList.drop p)).map fun z => l.map toP ++ z
theorem RaRel.start (s : ByteArray) : RaRel s [] 0 := ⟨s.size + 1, by omega, by omega, by simp, by
  rw [List.drop_zero]
  cases readAllR (s.size + 1) s.data.toList <;> simp⟩
theorem RaRel.fuel {s : ByteArray} {l : List Vl} {p : Nat} (h : RaRel s l p) : ∃ f, s.size ≤ f + p ∧ p ≤ s.size ∧ l.length ≤ p ∧ readAllR (s.size + 1) s.data.toList = (readAllR (f + 1) (s.data.toList.drop p)).map fun z => l.map toP ++ z := by
  obtain ⟨f, h1, h2, h3, h4⟩ := h
  obtain ⟨f, rfl⟩ : ∃ g, f = g + 1 := ⟨f - 1, by omega⟩
  exact ⟨f, by omega, h2, h3, h4⟩
theorem RaRel.stop {s : ByteArray} {l : List Vl} {p : Nat} (h : RaRel s l p) (hr : literalR (s.data.toList.drop p) = none) : readAllR (s.size + 1) s.data.toList = none := by
  obtain ⟨f, _, _, _, h4⟩ := h.fuel
  rw [h4, readAllR, hr]
  rfl
theorem RaRel.last {s : ByteArray} {l : List Vl} {p n' : Nat} {v : VlP} (h : RaRel s l p) (hr : literalR (s.data.toList.drop p) = some (v, s.data.toList.drop n')) (hn : n' = s.size) : readAllR (s.size + 1) s.data.toList = some ((l ++ [ofP v]).map toP) := by
  obtain ⟨f, _, _, _, h4⟩ := h.fuel
  subst hn
  rw [drop_out s s.size (by omega)] at hr
  rw [h4, readAllR, hr]
  simp [toP_ofP]
theorem RaRel.bad {s : ByteArray} {l : List Vl} {p n' : Nat} {v : VlP} (h : RaRel s l p) (hr : literalR (s.data.toList.drop p) = some (v, s.data.toList.drop n')) (hn : n' < s.size) (hc : byteU s n' ≠ 44) : readAllR (s.size + 1) s.data.toList = none := by
  obtain ⟨f, _, _, _, h4⟩ := h.fuel
  rw [byteU_drop s n' hn] at hr
  rw [h4, readAllR, hr]
  simp [hc]
theorem RaRel.more {s : ByteArray} {l : List Vl} {p n' : Nat} {v : VlP} (hpn : p ≤ n') (h : RaRel s l p) (hr : literalR (s.data.toList.drop p) = some (v, s.data.toList.drop n')) (hn : n' < s.size) (hc : byteU s n' = 44) : RaRel s (l ++ [ofP v]) (n' + 1) := by
  obtain ⟨f, h1, h2, h3, h4⟩ := h.fuel
  refine ⟨f, by omega, by omega, by simp; omega, ?_⟩
  rw [byteU_drop s n' hn] at hr
  rw [h4, readAllR, hr]
  simp only
  rw [if_pos hc]
  cases readAllR f (s.data.toList.drop (n' + 1)) <;> simp [toP_ofP]
end
section
open Go.RowKit
set_option linter.unusedVariables false
set_option linter.unusedSimpArgs false
set_option linter.unusedSectionVars false
set_option maxRecDepth 100000
attribute [local go_sem] Oper.semAt_some

/-- what the reference's Parse leaves -/
def RaPost (s : ByteArray) (w : World) (e : Ending) (w' : World) : Prop :=
  Ext w w' ∧ ∃ P c l y, e = .returned (.tuple #[.slice P l.length c, .int .i64 y]) ∧ SlV w' P c l ∧ parseRT rowP s.data.toList = (l.map toP, y)
theorem RaPost.bad {s : ByteArray} {w w' : World} (hx : Ext w w') (h : parseRT rowP s.data.toList = ([], 2)) : RaPost s w (.returned (.tuple #[.slice none 0 0, .int .i64 2])) w' :=
  ⟨hx, none, 0, [], 2, rfl, SlG.nil _ _, h⟩
def resR (z : Option (List VlP)) : List VlP × Int := match z with
  | none => ([], 2)
  | some l => if rowP l = false then ([], 2) else (l, 0)
set_option maxHeartbeats 8000000 in
theorem rparse_any (s : ByteArray) (w : World) (hs : s.size ≤ 140737488355328) :
    Calls Tryd.prog 47 #[.string s] w (RaPost s w) := by
  have hel : s.data.toList.length = s.size := by simp
  by_cases h20 : 20000 < s.size
  · have c1 : (20000 : Int) < s.size := by omega
    have HP := Lib.hid (show parseRT rowP s.data.toList = ([], 3) from by unfold parseRT; rw [if_pos (by omega)])
    clear hel
    go_enter Tryd.func47, Tryd.ntmps47
    go_wp2
    go_ret2
    exact ⟨Ext.refl w, none, 0, [], 3, rfl, SlG.nil _ _, HP.out⟩
  · have c1 : ¬ (20000 : Int) < s.size := by omega
    by_cases he : s.size = 0
    · have hs1 : s = ⟨#[]⟩ := empty_of he
      have HP := Lib.hid (show parseRT rowP s.data.toList = ([], 0) from by rw [hs1]; rfl)
      have hemp : s.toList.isEmpty = true := by
        rw [hs1, ← decide_eq_emptyBytes]
        exact decide_eq_true rfl
      clear he hs1 hel
      go_enter Tryd.func47, Tryd.ntmps47
      go_wp2
      go_ret2
      exact ⟨Ext.refl w, none, 0, [], 0, rfl, SlG.nil _ _, HP.out⟩
    · have hemp : s.toList.isEmpty = false := by
        rw [← decide_eq_emptyBytes]
        exact decide_eq_false (fun h => by rw [h] at he; exact he rfl)
      have hne : s.data.toList ≠ [] := fun h => by rw [h] at hel; exact he hel.symm
      have HPR := Lib.hid (show ∀ z, readAllR (s.size + 1) s.data.toList = z → parseRT rowP s.data.toList = resR z from fun z hz => by
        unfold parseRT resR
        rw [if_neg (by omega), if_neg hne, hel, hz]
        rfl)
      clear hel hne he
      go_enter Tryd.func47, Tryd.ntmps47
      go_wp2
      go_loopw [5, 4, 2, 3] (fun i v _ _ wr => ∃ (p : Nat) (l : List Vl), RaRel s l p ∧ i = .int .i64 p ∧ OwnG Vl.cells 29 3 wr w.heap.size v l ∧ Ext w wr) (fun i _ _ _ _ => s.size + 1 - (intOf i).toNat)
      case atStart => exact ⟨0, [], RaRel.start s, rfl, OwnG.nil _ _ _ _ _, Ext.refl w⟩
      case round =>
        obtain ⟨p, l, hrel, rfl, hown, hx⟩ := hrel
        obtain ⟨_, _, hps, hlp, _⟩ := id hrel
        rcases literal_drop hps with hr | ⟨v0, n', hr, hn', hpn⟩
        · have HF := Lib.hid (HPR.out _ (hrel.stop hr))
          have hV := fun W => literal_none s p W hps (by omega) hr
          clear hrel hr
          go_wp2_with (go_at_call 81; refine (hV _).mono ?_; rintro e w1 ⟨⟨a, b, c, rfl⟩, hx1⟩)
          go_ret2
          exact RaPost.bad ((hx.trans hx1).alloc _) HF.out
        · have hV := fun W => literal_some s p W hps (by omega) hr hn'
          obtain ⟨x, hx0⟩ : ∃ x, ofP v0 = x := ⟨_, rfl⟩
          obtain ⟨L, hLx⟩ : ∃ L, l ++ [x] = L := ⟨_, rfl⟩
          have HLx := Lib.hid hLx
          have HLp := Lib.hid (show 0 < L.length from by rw [← hLx]; simp)
          have HLn := Lib.hid (show L.length ≤ 20001 from by rw [← hLx]; simp; omega)
          have hl1 : l.length ≤ 20000 := by omega
          rw [hx0] at hV
          have HRE := Lib.hid (And.intro hrel hr)
          have HX := Lib.hid hx0
          unfold Vl.v at hV
          have nz : (((n' : Int) - p) == 0) = false := by rw [beq_eq_false_iff_ne]; omega
          have d1 : IntKind.i64.wrap ((p : Int) + ((n' : Int) - p)) = (n' : Int) := by rw [IntWalk.i64_in _ ⟨by omega, by omega⟩]; omega
          have d2 : IntKind.i64.wrap ((n' : Int) + 1) = (n' : Int) + 1 := IntWalk.i64_in _ ⟨by omega, by omega⟩
          clear hrel hr hLx hx0
          by_cases hfin : n' = s.size
          · have HT := Lib.hid (HPR.out _ (HRE.out.1.last HRE.out.2 hfin))
            have e1 : ((n' : Int) == s.size) = true := by rw [beq_iff_eq]; omega
            clear hfin
            go_wp2_with (fail)
            go_at_call 81
            refine (hV _).mono ?_
            rintro e w1 ⟨rfl, hx1⟩
            have hx2 := hx.trans hx1
            have ho2 := hown.ext hx1
            dsimp only
            go_wp2_with (at_builtin; refine wpList_app_G _ elemV rfl _ _ rfl (base := w.heap.size) (m := [x]) rfl (ho2.ext (((Ext.refl w1).alloc _).alloc _)) rfl (SlG.lit (cs := Vl.cells) (k := 3) (fun _ => rfl) [x] rfl (by simp) rfl (by simp)) (fun h => by cases h) ?a1 ?a2 ?a3 ?_)
            case a1 => first | omega | (simp only [List.length_cons, List.length_nil]; omega)
            case a2 => first | omega | (simp only [List.length_cons, List.length_nil]; omega)
            case a3 => have := hx2.size; simp; omega
            intro v' w' hown' hb'
            have hx3 := below_ext ((hx2.alloc (.cells #[.int .i64 x.1, .int .i64 x.2.1, .string x.2.2] 29)).alloc (.cells #[.int .i64 x.1, .int .i64 x.2.1, .string x.2.2] 29)) hb' (Nat.le_refl _)
            rw [HLx.out] at hown'
            obtain ⟨g6, c6, rfl, _, _, _, _⟩ := hown'.tight HLp.out
            obtain ⟨PL, cL, hVe, hsl⟩ := OwnG.slG elemV hown' (by have := HLn.out; omega)
            injection hVe with z1 z2 z3
            subst z1 z3
            obtain ⟨PL, hPL⟩ : ∃ P : Option Addr, some ⟨g6, 0, none⟩ = P := ⟨_, rfl⟩
            rw [hPL] at hsl
            simp only [hPL]
            clear hPL z2 hown' hb'
            have hR := rrow_any PL c6 L w' hsl
            cases hrb : rowB L with
            | false =>
              rw [hrb] at hR
              have HP := Lib.hid (show parseRT rowP s.data.toList = ([], 2) from by
                rw [HT.out, HX.out, HLx.out]
                show (if rowP (L.map toP) = false then ([], 2) else (L.map toP, 0)) = (([], 2) : List VlP × Int)
                rw [rowP_map, hrb, if_pos rfl])
              clear hrb hsl
              go_wp2_with (go_at_call 19; refine hR.mono ?_; rintro e w7 ⟨rfl, hx7⟩)
              go_ret2
              exact RaPost.bad (hx3.trans hx7) HP.out
            | true =>
              rw [hrb] at hR
              have HP := Lib.hid (show parseRT rowP s.data.toList = (L.map toP, 0) from by
                rw [HT.out, HX.out, HLx.out]
                show (if rowP (L.map toP) = false then ([], 2) else (L.map toP, 0)) = ((L.map toP, 0) : List VlP × Int)
                rw [rowP_map, hrb, if_neg (by simp)])
              clear hrb
              go_wp2_with (go_at_call 19; refine hR.mono ?_; rintro e w7 ⟨rfl, hx7⟩)
              go_ret2
              exact ⟨hx3.trans hx7, PL, c6, L, 0, rfl, hsl.ext hx7, HP.out⟩
          · have hnlt : n' < s.size := by omega
            have e1 : ((n' : Int) == s.size) = false := by rw [beq_eq_false_iff_ne]; omega
            have i0 := fun W => str_at s n' n' rfl hnlt W
            by_cases h44 : byteU s n' = 44
            · have HR2 := Lib.hid (show RaRel s L (n' + 1) from by rw [← HLx.out, ← HX.out]; exact HRE.out.1.more (by omega) HRE.out.2 hnlt h44)
              rw [h44, show (((44 : UInt8).toNat : Nat) : Int) = 44 from rfl] at i0
              clear h44
              go_wp2_with (fail)
              go_at_call 81
              refine (hV _).mono ?_
              rintro e w1 ⟨rfl, hx1⟩
              have hx2 := hx.trans hx1
              have ho2 := hown.ext hx1
              dsimp only
              go_wp2_with (at_builtin; refine wpList_app_G _ elemV rfl _ _ rfl (base := w.heap.size) (m := [x]) rfl (ho2.ext (((Ext.refl w1).alloc _).alloc _)) rfl (SlG.lit (cs := Vl.cells) (k := 3) (fun _ => rfl) [x] rfl (by simp) rfl (by simp)) (fun h => by cases h) ?a1 ?a2 ?a3 ?_)
              case a1 => first | omega | (simp only [List.length_cons, List.length_nil]; omega)
              case a2 => first | omega | (simp only [List.length_cons, List.length_nil]; omega)
              case a3 => have := hx2.size; simp; omega
              intro v' w' hown' hb'
              have hx3 := below_ext ((hx2.alloc (.cells #[.int .i64 x.1, .int .i64 x.2.1, .string x.2.2] 29)).alloc (.cells #[.int .i64 x.1, .int .i64 x.2.1, .string x.2.2] 29)) hb' (Nat.le_refl _)
              rw [HLx.out] at hown'
              obtain ⟨g6, c6, rfl, _, _, _, _⟩ := hown'.tight HLp.out
              go_wp2
              go_roundw
              case rel => exact ⟨n' + 1, L, HR2.out, by go_num, hown', hx3⟩
              case measure => simp [intOf]; omega
            · have HF := Lib.hid (HPR.out _ (HRE.out.1.bad HRE.out.2 hnlt h44))
              have n44 := ne_byte h44
              rw [show (((44 : UInt8).toNat : Nat) : Int) = 44 from rfl] at n44
              generalize byteU s n' = u at *
              clear h44
              go_wp2_with (fail)
              go_at_call 81
              refine (hV _).mono ?_
              rintro e w1 ⟨rfl, hx1⟩
              have hx2 := hx.trans hx1
              have ho2 := hown.ext hx1
              dsimp only
              go_wp2_with (at_builtin; refine wpList_app_G _ elemV rfl _ _ rfl (base := w.heap.size) (m := [x]) rfl (ho2.ext (((Ext.refl w1).alloc _).alloc _)) rfl (SlG.lit (cs := Vl.cells) (k := 3) (fun _ => rfl) [x] rfl (by simp) rfl (by simp)) (fun h => by cases h) ?a1 ?a2 ?a3 ?_)
              case a1 => first | omega | (simp only [List.length_cons, List.length_nil]; omega)
              case a2 => first | omega | (simp only [List.length_cons, List.length_nil]; omega)
              case a3 => have := hx2.size; simp; omega
              intro v' w' hown' hb'
              have hx3 := below_ext ((hx2.alloc (.cells #[.int .i64 x.1, .int .i64 x.2.1, .string x.2.2] 29)).alloc (.cells #[.int .i64 x.1, .int .i64 x.2.1, .string x.2.2] 29)) hb' (Nat.le_refl _)
              rw [HLx.out] at hown'
              obtain ⟨g6, c6, rfl, _, _, _, _⟩ := hown'.tight HLp.out
              go_wp2
              go_ret2
              exact RaPost.bad hx3 HF.out
end
section
open Go.RowKit
set_option linter.unusedVariables false
set_option linter.unusedSimpArgs false
set_option linter.unusedSectionVars false
set_option maxRecDepth 20000
attribute [local go_sem] Oper.semAt_some

def lessF (a b : Int) : Int := if a < b then -1 else if b < a then 1 else 0
theorem less_any (a b : Int) (w : World) : Calls Tryd.prog 67 #[.int .i64 a, .int .i64 b] w fun e w' => e = .returned (.int .i64 (lessF a b)) ∧ w' = w := by
  unfold lessF
  by_cases h1 : a < b
  · rw [if_pos h1]
    go_enter Tryd.func67, Tryd.ntmps67
    go_wp2
    go_ret
    exact ⟨rfl, rfl⟩
  · rw [if_neg h1]
    have h1' : decide (a < b) = false := decide_eq_false h1
    by_cases h2 : b < a
    · rw [if_pos h2]
      clear h1
      go_enter Tryd.func67, Tryd.ntmps67
      go_wp2
      go_ret
      exact ⟨rfl, rfl⟩
    · rw [if_neg h2]
      have h2' : decide (b < a) = false := decide_eq_false h2
      clear h1 h2
      go_enter Tryd.func67, Tryd.ntmps67
      go_wp2
      go_ret
      exact ⟨rfl, rfl⟩
theorem cmpint_any (a b : Int) (w : World) : Calls Tryd.prog 65 #[.int .i64 a, .int .i64 b] w fun e w' => e = .returned (.int .i64 (lessF a b)) ∧ w' = w := by
  have h := Tryd.cmp_Compare_int a b w
  rw [show Lib.compareInt a b = lessF a b from by unfold Lib.compareInt lessF; rfl] at h
  exact h
theorem nanstr_any (s : ByteArray) (w : World) : Calls Tryd.prog 94 #[.string s] w fun e w' => e = .returned (.bool false) ∧ w' = w := by
  go_enter Tryd.func94, Tryd.ntmps94
  go_wp2
  go_ret
  exact ⟨by first | rfl | (simp; done), rfl⟩
def textsF (s t : ByteArray) : Int := if Op.bytesLess s.toList t.toList = true then -1 else if s.toList = t.toList then 0 else 1
theorem cmpstr_any (s t : ByteArray) (w : World) : Calls Tryd.prog 66 #[.string s, .string t] w fun e w' => e = .returned (.int .i64 (textsF s t)) ∧ w' = w := by
  unfold textsF
  cases hl : Op.bytesLess s.toList t.toList with
  | true =>
    rw [if_pos rfl]
    go_enter Tryd.func66, Tryd.ntmps66
    go_wp2_with (go_at_call 94; refine (nanstr_any _ _).mono ?_; rintro e w1 ⟨rfl, rfl⟩)
    go_ret
    exact ⟨rfl, rfl⟩
  | false =>
    rw [if_neg (by simp)]
    by_cases he : s.toList = t.toList
    · rw [if_pos he]
      have he1 : (s.toList == t.toList) = true := by simpa using he
      clear he
      go_enter Tryd.func66, Tryd.ntmps66
      go_wp2_with (go_at_call 94; refine (nanstr_any _ _).mono ?_; rintro e w1 ⟨rfl, rfl⟩)
      go_ret
      exact ⟨rfl, rfl⟩
    · rw [if_neg he]
      have he1 : (s.toList == t.toList) = false := by simpa using he
      have he2 : decide (s.toList = t.toList) = false := decide_eq_false he
      clear he
      go_enter Tryd.func66, Tryd.ntmps66
      go_wp2_with (go_at_call 94; refine (nanstr_any _ _).mono ?_; rintro e w1 ⟨rfl, rfl⟩)
      go_ret
      exact ⟨rfl, rfl⟩
theorem less_app : ∀ (p s t : List UInt8), Op.bytesLess (p ++ s) (p ++ t) = Op.bytesLess s t
  | [], s, t => rfl
  | x :: p, s, t => by
    have := less_app p s t
    simp [Op.bytesLess, this]
theorem texts_app (p s t : List UInt8) : (if Op.bytesLess (p ++ s) (p ++ t) = true then (-1 : Int) else if p ++ s = p ++ t then 0 else 1) = (if Op.bytesLess s t = true then (-1 : Int) else if s = t then 0 else 1) := by
  rw [less_app]
  simp
theorem take_same {s t : ByteArray} {k : Nat} (h1 : k ≤ s.size) (h2 : k ≤ t.size) (he : ∀ j, j < k → byteU s j = byteU t j) : s.toList.take k = t.toList.take k := by
  rw [Lib.toList_data, Lib.toList_data]
  apply List.ext_getElem?
  intro j
  have a1 : s.data.toList.length = s.size := by simp
  have a2 : t.data.toList.length = t.size := by simp
  by_cases hj : j < k
  · have := he j hj
    unfold byteU at this
    rw [List.getElem?_take_of_lt hj, List.getElem?_take_of_lt hj]
    rw [List.getD_eq_getElem?_getD, List.getD_eq_getElem?_getD, List.getElem?_eq_getElem (by omega), List.getElem?_eq_getElem (by omega)] at this
    rw [List.getElem?_eq_getElem (by omega), List.getElem?_eq_getElem (by omega)]
    simpa using this
  · rw [List.getElem?_eq_none (by simp; omega), List.getElem?_eq_none (by simp; omega)]
theorem drop_byte {s : ByteArray} {k : Nat} (h : k < s.size) : s.toList.drop k = byteU s k :: s.toList.drop (k + 1) := by
  rw [Lib.toList_data]
  have a1 : s.data.toList.length = s.size := by simp
  rw [List.drop_eq_getElem_cons (by omega)]
  congr 1
  unfold byteU
  rw [List.getD_eq_getElem?_getD, List.getElem?_eq_getElem (by omega)]
  rfl
theorem texts_split {s t : ByteArray} {k : Nat} (h1 : k ≤ s.size) (h2 : k ≤ t.size) (he : ∀ j, j < k → byteU s j = byteU t j) :
    textsF s t = (if Op.bytesLess (s.toList.drop k) (t.toList.drop k) = true then (-1 : Int) else if s.toList.drop k = t.toList.drop k then 0 else 1) := by
  have := texts_app (s.toList.take k) (s.toList.drop k) (t.toList.drop k)
  rw [← this]
  unfold textsF
  conv => rhs; rw [List.take_append_drop, take_same h1 h2 he, List.take_append_drop]
theorem texts_diff {s t : ByteArray} {k : Nat} (h1 : k < s.size) (h2 : k < t.size) (he : ∀ j, j < k → byteU s j = byteU t j) (hne : ¬ byteN s k = byteN t k) : textsF s t = lessF (byteN s k - byteN t k) 0 := by
  rw [texts_split (by omega) (by omega) he, drop_byte h1, drop_byte h2]
  rw [byteU_N s k h1, byteU_N t k h2] at hne ⊢
  have hn : ¬ byteU s k = byteU t k := fun e => hne (by rw [e])
  unfold lessF
  by_cases hl : byteU s k < byteU t k
  · have := UInt8.lt_iff_toNat_lt.1 hl
    have e1 : Op.bytesLess (byteU s k :: s.toList.drop (k + 1)) (byteU t k :: t.toList.drop (k + 1)) = true := by simp [Op.bytesLess, hl]
    rw [if_pos e1, if_pos (by omega)]
  · have h3 : ¬ (byteU s k).toNat < (byteU t k).toNat := fun h => hl (UInt8.lt_iff_toNat_lt.2 h)
    have e1 : ¬ Op.bytesLess (byteU s k :: s.toList.drop (k + 1)) (byteU t k :: t.toList.drop (k + 1)) = true := by simp [Op.bytesLess, hl, hn]
    have e2 : ¬ byteU s k :: s.toList.drop (k + 1) = byteU t k :: t.toList.drop (k + 1) := by simp [hn]
    rw [if_neg e1, if_neg e2, if_neg (by omega), if_pos (by omega)]
theorem texts_end {s t : ByteArray} {k : Nat} (h1 : k ≤ s.size) (h2 : k ≤ t.size) (hk : k = s.size ∨ k = t.size) (he : ∀ j, j < k → byteU s j = byteU t j) : textsF s t = lessF ((s.size : Int) - t.size) 0 := by
  rw [texts_split h1 h2 he]
  have a1 : (s.toList.drop k).length = s.size - k := by rw [Lib.toList_data]; simp
  have a2 : (t.toList.drop k).length = t.size - k := by rw [Lib.toList_data]; simp
  generalize s.toList.drop k = x at *
  generalize t.toList.drop k = y at *
  unfold lessF
  cases x with
  | nil =>
    cases y with
    | nil => simp at a1 a2; simp [Op.bytesLess]; omega
    | cons c y => simp at a1 a2; simp [Op.bytesLess]; omega
  | cons b x =>
    cases y with
    | nil => simp at a1 a2; simp [Op.bytesLess]; omega
    | cons c y => simp at a1 a2; omega
theorem sign_any (n : Int) (w : World) : Calls Tryd.prog 95 #[.int .i64 n] w fun e w' => e = .returned (.int .i64 (lessF n 0)) ∧ w = w' := by
  unfold lessF
  by_cases h1 : n < 0
  · rw [if_pos h1]
    go_enter Tryd.func95, Tryd.ntmps95
    go_wp2
    go_ret
    exact ⟨rfl, rfl⟩
  · rw [if_neg h1]
    have h1' : decide (n < 0) = false := decide_eq_false h1
    by_cases h2 : 0 < n
    · rw [if_pos h2]
      clear h1
      go_enter Tryd.func95, Tryd.ntmps95
      go_wp2
      go_ret
      exact ⟨rfl, rfl⟩
    · rw [if_neg h2]
      have h2' : decide (0 < n) = false := decide_eq_false h2
      clear h1 h2
      go_enter Tryd.func95, Tryd.ntmps95
      go_wp2
      go_ret
      exact ⟨rfl, rfl⟩
set_option maxHeartbeats 4000000 in
theorem texts_any (s t : ByteArray) (w : World) (hs : s.size ≤ 140737488355328) (ht : t.size ≤ 140737488355328) :
    Calls Tryd.prog 68 #[.string s, .string t] w fun e w' => e = .returned (.int .i64 (textsF s t)) ∧ Ext w w' := by
  go_enter Tryd.func68, Tryd.ntmps68
  go_wp2
  go_loopw [5] (fun i wr => ∃ k : Nat, k ≤ s.size ∧ k ≤ t.size ∧ i = .int .i64 k ∧ (∀ j, j < k → byteU s j = byteU t j) ∧ Ext w wr) (fun i _ => s.size - (intOf i).toNat)
  case atStart => exact ⟨0, by omega, by omega, rfl, by intro j hj; omega, Ext.refl w⟩
  case round =>
    obtain ⟨k, hk, hk2, rfl, hall, hx⟩ := hrel
    have hsub : IntKind.i64.wrap ((s.size : Int) - t.size) = (s.size : Int) - t.size := IntWalk.i64_in _ ⟨by omega, by omega⟩
    by_cases h1 : k < s.size
    · have c1 : (k : Int) < s.size := by omega
      by_cases h2 : k < t.size
      · have c2 : (k : Int) < t.size := by omega
        have d1 : IntKind.i64.wrap ((k : Int) + 1) = (k : Int) + 1 := IntWalk.i64_in _ ⟨by omega, by omega⟩
        have i1 := fun w => str_index s k h1 w
        have i2 := fun w => str_index t k h2 w
        have b1 := byteN_in s k
        have b2 := byteN_in t k
        by_cases he : byteN s k = byteN t k
        · have Hy : Hid (∀ j, j < k + 1 → byteU s j = byteU t j) := Lib.hid (fun j hj => by
            by_cases hjk : j = k
            · subst hjk
              rw [byteU_N s j h1, byteU_N t j h2] at he
              exact UInt8.toNat_inj.1 (by omega)
            · exact hall j (by omega))
          rw [he] at i1
          clear hall he
          generalize byteN t k = y at *
          go_wp2
          go_quiet (fail)
          go_wp2
          go_roundw
          case rel => exact ⟨k + 1, by omega, by omega, by go_num, Hy.out, hx.drewN _⟩
          case measure => simp [intOf]; omega
        · have Hn : Hid (textsF s t = lessF (byteN s k - byteN t k) 0) := Lib.hid (texts_diff h1 h2 hall he)
          have d2 : IntKind.i64.wrap (byteN s k - byteN t k) = byteN s k - byteN t k := IntWalk.i64_in _ ⟨by omega, by omega⟩
          have he1 : (byteN s k == byteN t k) = false := by simpa using he
          have he2 : (byteN s k != byteN t k) = true := by simpa using he
          have w1 : IntKind.i64.wrap (byteN s k) = byteN s k := IntWalk.i64_in _ ⟨by omega, by omega⟩
          have w2 : IntKind.i64.wrap (byteN t k) = byteN t k := IntWalk.i64_in _ ⟨by omega, by omega⟩
          have hS := fun W => sign_any (byteN s k - byteN t k) W
          clear hall he
          generalize byteN s k = x at *
          generalize byteN t k = y at *
          go_wp2
          go_quiet (fail)
          go_wp2
          go_quiet ((go_at_call 95; first | exact quiet_left (hS _) | exact quiet_add_left (hS _)))
          go_wp2
          go_ret
          exact ⟨by rw [Hn.out]; rfl, by first | exact hx.drewN _ | exact (hx.drewN _).drewN _⟩
      · have c2 : decide ((k : Int) < t.size) = false := decide_eq_false (by omega)
        have hno := Lib.hid h2
        have Hn := Lib.hid (texts_end (s := s) (t := t) hk hk2 (by omega) hall)
        have hS := fun W => sign_any ((s.size : Int) - t.size) W
        clear hall h2
        go_wp2_with (go_at_call 95; refine (hS _).mono ?_; rintro e w1 ⟨rfl, rfl⟩)
        all_goals first
          | (exfalso; have := hno.out; omega)
          | (go_ret
             exact ⟨by rw [Hn.out]; rfl, hx⟩)
    · have c1 : decide ((k : Int) < s.size) = false := decide_eq_false (by omega)
      have hno := Lib.hid h1
      have Hn := Lib.hid (texts_end (s := s) (t := t) hk hk2 (by omega) hall)
      have hS := fun W => sign_any ((s.size : Int) - t.size) W
      clear hall h1
      go_wp2_with (go_at_call 95; refine (hS _).mono ?_; rintro e w1 ⟨rfl, rfl⟩)
      all_goals first
        | (exfalso; have := hno.out; omega)
        | (go_ret
           exact ⟨by rw [Hn.out]; rfl, hx⟩)
end
end Go.Proofs.YtepgpejdnlejnaaDoor
