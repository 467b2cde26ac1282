/- Rings: Owner, Members, Back, Count of both. -/
import Derived.Test.YthmcdlieglollaaChN
namespace Go.Proofs.Ythmcdlieglollaa
open Go.RowKit Go.Sort
set_option linter.unusedVariables false
set_option linter.unusedSimpArgs false
set_option linter.unusedSectionVars false
set_option maxRecDepth 20000
attribute [local go_sem] Oper.semAt_some

/-- links are no ring, or one of an owner and members -/
theorem ring_cases (l : List Lk) : (validB l = false ∧ memF l = [] ∧ errF l = 1) ∨ ∃ o ms, l = builtF o ms ∧ Right (o :: ms) ∧ validB l = true ∧ own l = o ∧ memF l = ms ∧ errF l = 0 ∧ l.length = ms.length + 1 := by
  cases hv : validB l with
  | false => exact .inl ⟨rfl, memF_no hv, by simp [errF, hv]⟩
  | true =>
    obtain ⟨o, ms, h1, h2, h3⟩ := validB_is hv
    exact .inr ⟨o, ms, h1, h2, rfl, h3, by rw [h1]; exact memF_built h2, by simp [errF, hv], by rw [h1]; exact built_len o ms⟩
theorem own_cell {w : World} {P : Option Addr} {cap : Nat} {l : List Lk} (h : SlL w P cap l) (h0 : 0 < l.length) : ∃ b off, P = some ⟨b, off, none⟩ ∧ w.cell? ⟨b, off + 3, none⟩ = some (.int .i64 (own l)) := by
  obtain ⟨b0, off0, hP0, _, _, _, z3⟩ := h.lkAt 0 h0
  simp only [Nat.zero_mul, Nat.add_zero] at z3
  exact ⟨b0, off0, hP0, z3⟩
def ownF' (l : List Lk) : Int := if validB l = true then own l else 0
def cntF (l : List Lk) : Int := if validB l = true then (l.length : Int) - 1 else 0
theorem owner_any (P : Option Addr) (cap : Nat) (l : List Lk) (w : World) (h : SlL w P cap l) (ok : ∀ x ∈ l, OkK x) :
    Calls Try.prog 17 #[.slice P l.length cap] w fun e w' => e = .returned (.tuple #[.int .i64 (ownF' l), .int .i64 (errF l)]) ∧ Ext w w' := by
  have hV := valid_any P cap l w h ok
  rcases ring_cases l with ⟨h1, _, h3⟩ | ⟨o, ms, hl, hr, h1, h2, _, h4, h5⟩
  · rw [h1] at hV
    have HB := Lib.hid (show ownF' l = 0 from by simp [ownF', h1])
    have HE := Lib.hid h3
    rw [HB.out, HE.out]
    clear h1 h3
    go_enter Try.func17, Try.ntmps17
    go_wp2_with (go_at_call 14; refine hV.mono ?_; rintro e w1 ⟨rfl, hx1⟩)
    go_ret2
    exact ⟨rfl, hx1⟩
  · rw [h1] at hV
    have HB := Lib.hid (show ownF' l = own l from by simp [ownF', h1])
    obtain ⟨b, off, rfl, g3⟩ := own_cell h (by omega)
    have c1 : (0 : Int) < l.length := by omega
    have HE := Lib.hid h4
    rw [HB.out, HE.out]
    clear h1 hl h2 h4 h5
    go_enter Try.func17, Try.ntmps17
    go_wp2_with (go_at_call 14; refine hV.mono ?_; rintro e w1 ⟨rfl, hx1⟩; have g3 := hx1.cell g3)
    go_ret2
    exact ⟨rfl, hx1⟩
theorem rowner_any (P : Option Addr) (cap : Nat) (l : List Lk) (w : World) (h : SlL w P cap l) (ok : ∀ x ∈ l, OkK x) :
    Calls Try.prog 25 #[.slice P l.length cap] w fun e w' => e = .returned (.tuple #[.int .i64 (ownF' l), .int .i64 (errF l)]) ∧ Ext w w' := by
  have hV := rvalid_any P cap l w h ok
  rcases ring_cases l with ⟨h1, _, h3⟩ | ⟨o, ms, hl, hr, h1, h2, _, h4, h5⟩
  · rw [h1] at hV
    have HB := Lib.hid (show ownF' l = 0 from by simp [ownF', h1])
    have HE := Lib.hid h3
    rw [HB.out, HE.out]
    clear h1 h3
    go_enter Try.func25, Try.ntmps25
    go_wp2_with (go_at_call 22; refine hV.mono ?_; rintro e w1 ⟨rfl, hx1⟩)
    go_ret2
    exact ⟨rfl, hx1⟩
  · rw [h1] at hV
    have HB := Lib.hid (show ownF' l = own l from by simp [ownF', h1])
    obtain ⟨b, off, rfl, g3⟩ := own_cell h (by omega)
    have c1 : (0 : Int) < l.length := by omega
    have HE := Lib.hid h4
    rw [HB.out, HE.out]
    clear h1 hl h2 h4 h5
    go_enter Try.func25, Try.ntmps25
    go_wp2_with (go_at_call 22; refine hV.mono ?_; rintro e w1 ⟨rfl, hx1⟩; have g3 := hx1.cell g3)
    go_ret2
    exact ⟨rfl, hx1⟩
theorem membersM_any (P : Option Addr) (cap : Nat) (l : List Lk) (w : World) (h : SlL w P cap l) (ok : ∀ x ∈ l, OkK x) :
    Calls Try.prog 18 #[.slice P l.length cap] w fun e w' => (∃ v, e = .returned (.tuple #[v, .int .i64 (errF l)]) ∧ ResI w' v (memF l)) ∧ Ext w w' := by
  have hV := valid_any P cap l w h ok
  rcases ring_cases l with ⟨h1, h2, h3⟩ | ⟨o, ms, hl, hr, h1, h2, h3, h4, h5⟩
  · rw [h1] at hV
    have HM := Lib.hid h2
    have HE := Lib.hid h3
    rw [HE.out, HM.out]
    clear h1 h3 h2
    go_enter Try.func18, Try.ntmps18
    go_wp2_with (go_at_call 14; refine hV.mono ?_; rintro e w1 ⟨rfl, hx1⟩)
    go_ret2
    exact ⟨⟨_, rfl, ResG.nil _ _⟩, hx1⟩
  · rw [h1] at hV
    have hL := fun W hx => listed_any P cap l o ms hl hr W (h.ext hx)
    have hle := hr.le
    simp only [List.length_cons] at hle
    have HM := Lib.hid h3
    have HE := Lib.hid h4
    rw [HE.out, HM.out]
    clear h1 hl h2 h3 h4 h5
    go_enter Try.func18, Try.ntmps18
    go_wp2_with (first
      | (go_at_call 14; refine hV.mono ?_; rintro e w1 ⟨rfl, hx1⟩)
      | (go_at_call 54; refine (hL _ hx1).mono ?_; rintro e w2 ⟨⟨v, rfl, ho⟩, hx2⟩))
    go_ret2
    exact ⟨⟨_, rfl, ho.res elemI (by omega)⟩, hx1.trans hx2⟩
theorem rmembersM_any (P : Option Addr) (cap : Nat) (l : List Lk) (w : World) (h : SlL w P cap l) (ok : ∀ x ∈ l, OkK x) :
    Calls Try.prog 23 #[.slice P l.length cap] w fun e w' => (∃ v, e = .returned (.tuple #[v, .int .i64 (errF l)]) ∧ ResI w' v (memF l)) ∧ Ext w w' := by
  have hV := rvalid_any P cap l w h ok
  rcases ring_cases l with ⟨h1, h2, h3⟩ | ⟨o, ms, hl, hr, h1, h2, h3, h4, h5⟩
  · rw [h1] at hV
    have HM := Lib.hid h2
    have HE := Lib.hid h3
    rw [HE.out, HM.out]
    clear h1 h3 h2
    go_enter Try.func23, Try.ntmps23
    go_wp2_with (go_at_call 22; refine hV.mono ?_; rintro e w1 ⟨rfl, hx1⟩)
    go_ret2
    exact ⟨⟨_, rfl, ResG.nil _ _⟩, hx1⟩
  · rw [h1] at hV
    have hL := fun W hx => rmembers_any P cap l o ms hl hr W (h.ext hx)
    have hle := hr.le
    simp only [List.length_cons] at hle
    have HM := Lib.hid h3
    have HE := Lib.hid h4
    rw [HE.out, HM.out]
    clear h1 hl h2 h3 h4 h5
    go_enter Try.func23, Try.ntmps23
    go_wp2_with (first
      | (go_at_call 22; refine hV.mono ?_; rintro e w1 ⟨rfl, hx1⟩)
      | (go_at_call 58; refine (hL _ hx1).mono ?_; rintro e w2 ⟨⟨v, rfl, ho⟩, hx2⟩))
    go_ret2
    exact ⟨⟨_, rfl, ho.res elemI (by omega)⟩, hx1.trans hx2⟩
theorem back_M (P : Option Addr) (cap : Nat) (l : List Lk) (w : World) (h : SlL w P cap l) (ok : ∀ x ∈ l, OkK x) :
    Calls Try.prog 19 #[.slice P l.length cap] w fun e w' => (∃ v, e = .returned (.tuple #[v, .int .i64 (errF l)]) ∧ ResI w' v (memF l).reverse) ∧ Ext w w' := by
  have hV := valid_any P cap l w h ok
  rcases ring_cases l with ⟨h1, h2, h3⟩ | ⟨o, ms, hl, hr, h1, h2, h3, h4, h5⟩
  · rw [h1] at hV
    have HM := Lib.hid h2
    have HE := Lib.hid h3
    rw [HE.out, HM.out]
    clear h1 h3 h2
    go_enter Try.func19, Try.ntmps19
    go_wp2_with (go_at_call 14; refine hV.mono ?_; rintro e w1 ⟨rfl, hx1⟩)
    go_ret2
    exact ⟨⟨_, rfl, ResG.nil _ _⟩, hx1⟩
  · rw [h1] at hV
    have hM := fun W => members_any P l.length cap 57 W
    have hC := fun W (hx : Ext w W) => gathered_any P cap l o ms 57 (fun x => x.2.2.1) (backR ms.length) hl hr (way_back hr) back_any (enters_of Try.func57 (by kernel_rfl) rfl) W _ (h.ext hx) rfl
    simp only [list_back] at hC
    have hle := hr.le
    simp only [List.length_cons] at hle
    have HM := Lib.hid h3
    have HE := Lib.hid h4
    rw [HE.out, HM.out]
    clear h1 hl h2 h3 h4 h5
    go_enter Try.func19, Try.ntmps19
    go_wp2_with (first
      | (go_at_call 14; refine hV.mono ?_; rintro e w1 ⟨rfl, hx1⟩)
      | (go_at_call 56; refine (hM _).mono ?_; rintro e w2 ⟨rfl, rfl⟩)
      | (go_at_call 55; refine (hC _ hx1).mono ?_; rintro e w3 ⟨⟨v, rfl, ho⟩, hx3⟩))
    go_ret2
    exact ⟨⟨_, rfl, ho.res elemI (by simp; omega)⟩, hx1.trans ((((Ext.refl _).alloc _).alloc _).trans hx3)⟩
theorem rback_M (P : Option Addr) (cap : Nat) (l : List Lk) (w : World) (h : SlL w P cap l) (ok : ∀ x ∈ l, OkK x) :
    Calls Try.prog 24 #[.slice P l.length cap] w fun e w' => (∃ v, e = .returned (.tuple #[v, .int .i64 (errF l)]) ∧ ResI w' v (memF l).reverse) ∧ Ext w w' := by
  have hM := rmembersM_any P cap l w h ok
  have hle : (memF l).length ≤ 500 := by
    rcases ring_cases l with ⟨_, h2, _⟩ | ⟨o, ms, _, hr, _, _, h3, _⟩
    · rw [h2]; simp
    · rw [h3]; have := hr.le; simp at this; omega
  generalize memF l = ms at *
  generalize errF l = er at *
  go_enter Try.func24, Try.ntmps24
  go_wp2_with (go_at_call 23; refine hM.mono ?_; rintro e w1 ⟨⟨v, rfl, Q1, c1, rfl, s1, hq1⟩, hx1⟩)
  go_loopg [7, 6] ms.length (fun gk i v wr => gk ≤ ms.length ∧ i = .int .i64 ((gk : Int) - 1) ∧ OwnI wr w1.heap.size v (ms.drop gk).reverse ∧ Ext w1 wr)
  case atStart => exact ⟨by omega, rfl, by rw [List.drop_length]; exact OwnG.nil _ _ _ _ _, Ext.refl _⟩
  case round =>
    obtain ⟨hk, rfl, hown, hx⟩ := hrel
    by_cases hz : gk = 0
    · subst hz
      rw [List.drop_zero] at hown
      go_wp2
      go_ret2
      exact ⟨⟨_, rfl, hown.res elemI (by simp; omega)⟩, hx1.trans hx⟩
    · obtain ⟨gp, rfl⟩ : ∃ gp, gk = gp + 1 := ⟨gk - 1, by omega⟩
      obtain ⟨b, off, hP, g0⟩ := s1.intAt gp (by omega)
      rw [show ms.getD gp 0 = nthI ms gp from rfl] at g0
      have g0 := hx.cell g0
      subst hP
      have e1 : (((gp + 1 : Nat) : Int) - 1) = (gp : Int) := by omega
      rw [e1]
      have d1 : IntKind.i64.wrap ((gp : Int) - 1) = (gp : Int) - 1 := IntWalk.i64_in _ ⟨by omega, by omega⟩
      have cg : (gp : Int) < ms.length := by omega
      have HD := Lib.hid (show (ms.drop gp).reverse = (ms.drop (gp + 1)).reverse ++ [nthI ms gp] from by
        have hg : gp < ms.length := by omega
        rw [List.drop_eq_getElem_cons hg, List.reverse_cons, nthI_get hg])
      have HO := Lib.hid hown
      have HK := Lib.hid hk
      have HL5 := Lib.hid hle
      clear hown e1 hk
      generalize nthI ms gp = key at *
      go_wp2_with (at_builtin; refine wpList_app_G _ elemI rfl _ _ rfl (base := w1.heap.size) rfl (HO.out.ext ((Ext.refl _).alloc _)) (m := [key]) rfl (SlG.one elemI.hk _ ?c1 ?c2) ?c3 ?c4 ?c5 ?c6 ?_)
      case c1 => rfl
      all_goals first
        | (intro e; cases e; done)
        | (have := HL5.out; have := hx.size; have := hx1.size; omega; done)
        | (have := HL5.out; have := hx.size; have := hx1.size; simp; omega; done)
        | skip
      intro v' w3 hown' hbl
      have hx3 : Ext w1 w3 := below_ext (hx.alloc _) hbl (Nat.le_refl _)
      go_wp2
      go_roundg gp
      case measure => omega
      case rel => exact ⟨by have := HK.out; omega, rfl, by rw [HD.out]; exact hown', hx3⟩
theorem count_any (P : Option Addr) (cap : Nat) (l : List Lk) (w : World) (h : SlL w P cap l) (ok : ∀ x ∈ l, OkK x) :
    Calls Try.prog 20 #[.slice P l.length cap] w fun e w' => e = .returned (.tuple #[.int .i64 (memF l).length, .int .i64 (errF l)]) ∧ Ext w w' := by
  have hV := valid_any P cap l w h ok
  have hlen := h.len
  rcases ring_cases l with ⟨h1, h2, h3⟩ | ⟨o, ms, hl, hr, h1, h2, h3, h4, h5⟩
  · rw [h1] at hV
    have HM := Lib.hid h2
    have HE := Lib.hid h3
    rw [HE.out, HM.out]
    clear h1 h3 h2
    go_enter Try.func20, Try.ntmps20
    go_wp2_with (go_at_call 14; refine hV.mono ?_; rintro e w1 ⟨rfl, hx1⟩)
    go_ret2
    exact ⟨rfl, hx1⟩
  · rw [h1] at hV
    have HM := Lib.hid h3
    have HE := Lib.hid h4
    have d1 : IntKind.i64.wrap ((l.length : Int) - 1) = (ms.length : Int) := by rw [IntWalk.i64_in _ ⟨by omega, by omega⟩]; omega
    rw [HE.out, HM.out]
    clear h1 hl h2 h3 h4 h5
    go_enter Try.func20, Try.ntmps20
    go_wp2_with (go_at_call 14; refine hV.mono ?_; rintro e w1 ⟨rfl, hx1⟩)
    go_ret2
    exact ⟨rfl, hx1⟩
theorem rcount_any (P : Option Addr) (cap : Nat) (l : List Lk) (w : World) (h : SlL w P cap l) (ok : ∀ x ∈ l, OkK x) :
    Calls Try.prog 26 #[.slice P l.length cap] w fun e w' => e = .returned (.tuple #[.int .i64 (memF l).length, .int .i64 (errF l)]) ∧ Ext w w' := by
  have hM := rmembersM_any P cap l w h ok
  generalize memF l = ms at *
  generalize errF l = er at *
  go_enter Try.func26, Try.ntmps26
  go_wp2_with (go_at_call 23; refine hM.mono ?_; rintro e w1 ⟨⟨v, rfl, Q1, c1, rfl, s1, hq1⟩, hx1⟩)
  go_ret2
  exact ⟨rfl, hx1⟩
set_option maxHeartbeats 4000000 in
theorem same_yes (P Q : Option Addr) (c d : Nat) (l : List Int) (w : World) (h : SlI w P c l) (h2 : SlI w Q d l) :
    Calls Try.prog 21 #[.slice P l.length c, .slice Q l.length d] w fun e w' => e = .returned (.bool true) ∧ Ext w w' := by
  have hlen := h.len
  go_enter Try.func21, Try.ntmps21
  go_wp2
  go_loopw [5] (fun i wr => ∃ k : Nat, k ≤ l.length ∧ i = .int .i64 k ∧ Ext w wr) (fun i _ => l.length - (intOf i).toNat)
  case atStart => exact ⟨0, by omega, rfl, Ext.refl w⟩
  case round =>
    obtain ⟨k, hk, rfl, hx⟩ := hrel
    by_cases hlt : k < l.length
    · obtain ⟨b, off, hP, g0⟩ := h.intAt k hlt
      obtain ⟨b2, off2, hQ, q0⟩ := h2.intAt k hlt
      subst hP
      subst hQ
      have g0 := hx.cell g0
      have q0 := hx.cell q0
      have c1 : (k : Int) < l.length := by omega
      have d1 : IntKind.i64.wrap ((k : Int) + 1) = (k : Int) + 1 := IntWalk.i64_in _ ⟨by omega, by omega⟩
      generalize l.getD k 0 = x at *
      go_wp2
      go_quiet (fail)
      go_wp2
      go_roundw
      case rel => exact ⟨k + 1, by omega, by go_num, hx.drewN _⟩
      case measure => simp [intOf]; omega
    · obtain rfl : k = l.length := by omega
      go_wp2
      go_ret
      exact ⟨rfl, hx⟩
set_option maxHeartbeats 4000000 in
theorem samelinks_yes (P Q : Option Addr) (c d : Nat) (l : List Lk) (w : World) (h : SlL w P c l) (h2 : SlL w Q d l) :
    Calls Try.prog 16 #[.slice P l.length c, .slice Q l.length d] w fun e w' => e = .returned (.bool true) ∧ Ext w w' := by
  have hlen := h.len
  go_enter Try.func16, Try.ntmps16
  go_wp2
  go_loopw [5] (fun i wr => ∃ k : Nat, k ≤ l.length ∧ i = .int .i64 k ∧ Ext w wr) (fun i _ => l.length - (intOf i).toNat)
  case atStart => exact ⟨0, by omega, rfl, Ext.refl w⟩
  case round =>
    obtain ⟨k, hk, rfl, hx⟩ := hrel
    by_cases hlt : k < l.length
    · obtain ⟨b, off, hP, g0, g1, g2, g3⟩ := h.lkAt k hlt
      obtain ⟨b2, off2, hQ, q0, q1, q2, q3⟩ := h2.lkAt k hlt
      subst hP
      subst hQ
      have g0 := hx.cell g0
      have g1 := hx.cell g1
      have g2 := hx.cell g2
      have g3 := hx.cell g3
      have q0 := hx.cell q0
      have q1 := hx.cell q1
      have q2 := hx.cell q2
      have q3 := hx.cell q3
      have c1 : (k : Int) < l.length := by omega
      have d1 : IntKind.i64.wrap ((k : Int) + 1) = (k : Int) + 1 := IntWalk.i64_in _ ⟨by omega, by omega⟩
      have hG := fun (op : BinOp) (u v : Operand) (xs ys : Array Value) (W : World) => run_eqGuard_agg (P := Try.prog) W op 31 u v xs ys (by kernel_rfl)
      generalize nthL l k = x at *
      go_wp2
      go_quiet (fail)
      go_wp2
      go_roundw
      case rel => exact ⟨k + 1, by omega, by go_num, hx.drewN _⟩
      case measure => simp [intOf]; omega
    · obtain rfl : k = l.length := by omega
      go_wp2
      go_ret
      exact ⟨rfl, hx⟩
end Go.Proofs.Ythmcdlieglollaa
