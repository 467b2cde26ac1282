/- Arrays, the reference: take. -/
import Derived.Test.YtiakmcfbkceojaaArX1
import Derived.Deep.RegionHeld3
namespace Go.Proofs.Ytiakmcfbkceojaa
open Go.RowKit Go.Maps
set_option linter.unusedVariables false
set_option linter.unusedSimpArgs false
set_option maxRecDepth 20000
attribute [local go_sem] Oper.semAt_some

theorem copied_t (P : Option Addr) (cap : Nat) (Q : Nat → Option Addr) (C : Nat → Nat) (LL : List (List Int)) (w : World) (h : SlA w P cap Q C LL) (hne : ∀ l ∈ LL, l ≠ []) (ht : LL.flatten.length ≤ 1000) :
    Calls Try.prog 63 #[.slice P LL.length cap] w (OwdPost LL w) := by
  have hlen := h.len
  have hll := len_le_flat LL hne
  go_enter Try.func63, Try.ntmps63
  go_wp2
  go_loopw [4, 3] (fun i v wr => OwdR LL w i v wr) (fun i _ _ => LL.length - (intOf i).toNat)
  case atStart => exact ⟨0, [], by omega, rfl, OwnA.nil _ _, Lib.hid (fun r hr => by cases hr), rfl, Ext.refl w⟩
  case round =>
    obtain ⟨k, RR, hk, rfl, hO, hTs, hRR, hx⟩ := hrel
    by_cases hlt : k < LL.length
    · obtain ⟨bb, off, hP, hc⟩ := h.at_ k hlt
      subst hP
      replace hc := (hx.alloc (.cells #[] 3)).cell hc
      have hl := hne _ (nthA_mem hlt)
      obtain ⟨b2, off2, hQ, _⟩ := (h.row k hlt).at_ 0 (List.length_pos_iff.2 hl)
      have hrow := (h.row k hlt).ext hx
      rw [hQ] at hc hrow
      have Hk := Lib.hid (nthA_take hlt)
      have hsz : (nthA LL k).length ≤ 1000 := by
        have h1 := lenT_le LL (k + 1)
        rw [lenT_succ hlt] at h1
        omega
      have HRR := Lib.hid hRR
      have hRl : RR.length = k := by
        have := congrArg List.length hRR
        rw [List.length_map, List.length_take] at this
        omega
      obtain ⟨v1, w2, hrun, hown, hx2⟩ := fresh_ints wr _ b2 off2 (C k) hrow (by omega)
      obtain ⟨g, c, rfl, hT⟩ := TightB.of hown hl
      obtain ⟨v6, W6, hrun6, hO6, hx6, ht6⟩ := app_one_t (w := w) (r := ⟨g, c, nthA LL k⟩) (hx.trans hx2) (hO.ext hx2) (hT.inB.down hx.size) (fun x hx' => by have h1 := hO.lt hx'; have h2 := hT.inB.1; simp only at h2 ⊢; omega) (fun e => by have h1 := (hO.out.lt _ e).2; have h2 := hT.inB.1; simp only at h1 h2; omega) (by omega)
      simp only at hrun6
      have hT6 : Hid (∀ r ∈ RR ++ [⟨g, c, nthA LL k⟩], TightB W6 w.heap.size r) := Lib.hid fun r hr => by
        rcases List.mem_append.1 hr with hr | hr
        · exact ht6 _ _ ((hTs.out r hr).ext hx2) (fun e => hO.far r hr e)
        · simp at hr
          subst hr
          refine ht6 _ _ (hT.down hx.size) (fun e => ?_)
          have h1 := (hO.out.lt _ e).2
          have h2 := hT.inB.1
          simp only at h1 h2
          omega
      have c1 : (k : Int) < LL.length := by omega
      have HO := Lib.hid hO
      clear hO hRR hRl hrow hT hown hQ
      go_wp2_with (first
        | (at_builtin; refine Lib.wpList_append_run _ rfl _ _ _ _ rfl _ _ rfl rfl _ _ hrun ?_)
        | (at_builtin; refine Lib.wpList_append_run _ rfl _ _ _ _ rfl _ _ rfl rfl _ _ hrun6 ?_))
      go_roundw
      case rel => exact ⟨k + 1, _, by omega, by go_num, hO6, hT6, by rw [List.map_append, HRR.out, Hk.out]; rfl, hx6⟩
      case measure => simp [intOf]; omega
    · obtain rfl : k = LL.length := by omega
      rw [List.take_length] at hRR
      go_wp2
      go_ret
      exact ⟨_, RR, rfl, hO, hTs.out, hRR, hx⟩
/-- one block put behind, from a new cell; where it lies -/
theorem app_one_g {w W : World} {base : Nat} {v : Value} {A : List Row} {r : Row} (hwb : w.heap.size ≤ base) (hbW : base ≤ W.heap.size) (hx : Ext w W) (h : OwnA W base v A) (hr : InB W base r) (hne : ∀ x ∈ A, x.h ≠ r.h) (hv : v.ownBlock ≠ some r.h) (hn : A.length ≤ 10000) :
    ∃ v' W', (Builtin.append_ #[24, 24] 24 #[v, .slice (some ⟨W.heap.size, 0, none⟩) 1 1]).run Try.prog (W.alloc (.cells #[.slice (some ⟨r.h, 0, none⟩) r.l.length r.c] 22)) = .ok v' W' ∧ OwnA W' base v' (A ++ [r]) ∧ Ext w W' ∧ (W.alloc (.cells #[.slice (some ⟨r.h, 0, none⟩) r.l.length r.c] 22)).grownBy W' v.ownBlock ∧ (v'.ownBlock = v.ownBlock ∨ ∃ k, v'.ownBlock = some k ∧ W.heap.size ≤ k) := by
  have hx1 : Ext W (W.alloc (.cells #[.slice (some ⟨r.h, 0, none⟩) r.l.length r.c] 22)) := (Ext.refl W).alloc _
  have ho := h.ext hx1
  have hblk := ho.out.lt
  obtain ⟨v', w', h1, h2, h3, h4⟩ := ho.app (B := [r]) W.heap.size 0 1 (fun j u hj => by
    have hjl := (List.getElem?_eq_some_iff.1 hj).1
    obtain rfl : j = 0 := by simpa using hjl
    simp only [List.map_cons, List.map_nil, List.getElem?_cons_zero, Option.some.injEq] at hj
    subst hj
    exact one_at (World.alloc_heap_new W _)) (fun x hx' => by simp at hx'; subst hx'; exact hr.same (hx1.block hr.lt)) (by simp) (fun x hx' y hy => by simp at hy; subst hy; exact hne x hx') (fun y hy => by simp at hy; subst hy; exact hv) (by simp; omega) (by rw [World.size_alloc]; omega)
  exact ⟨v', w', h1, h2, Below.grown (hx.trans hx1) h3 (hx.trans hx1).size (fun j hj => by have := (hblk j hj).1; omega), h3, h4.imp id fun e => ⟨_, e, hx1.size⟩⟩
theorem OwnA.grown {w w' : World} {base : Nat} {v : Value} {RR : List Row} {row : Option Nat} (h : OwnA w base v RR) (hg : w.grownBy w' row) (h1 : row = none ∨ row ≠ v.ownBlock) (h2 : ∀ r ∈ RR, row ≠ some r.h) : OwnA w' base v RR := by
  cases row with
  | none => exact h.ext ⟨hg.os, hg.tape, hg.output, hg.size, fun k hk => hg.block k hk (by simp)⟩
  | some k => exact h.kept hg (fun e => by rcases h1 with h1 | h1
                                           · cases h1
                                           · exact h1 e.symm) (fun r hr e => h2 r hr (by rw [e]))
/-- an array put behind an array, wherever they lie -/
theorem join_gen {w W : World} {base base2 : Nat} {v v2 : Value} {A B : List Row} (hwb : w.heap.size ≤ base) (hx : Ext w W) (h : OwnA W base v A) (h2 : OwnA W base2 v2 B) (hAB : ∀ x ∈ A, ∀ y ∈ B, x.h ≠ y.h) (hv : ∀ y ∈ B, v.ownBlock ≠ some y.h) (hn : A.length + B.length ≤ 100000) (hbb : base ≤ base2) (hb : base ≤ W.heap.size) :
    ∃ v' W', (Builtin.append_ #[24, 24] 24 #[v, v2]).run Try.prog W = .ok v' W' ∧ OwnA W' base v' (A ++ B) ∧ Ext w W' := by
  have hblk := h.out.lt
  rcases h2.cases with ⟨rfl, rfl⟩ | ⟨g, cap, rfl, hg, hc, _⟩
  · exact ⟨v, W, run_app_nil W base _ _ _ Try.underlying24 sizeJ v _ _ h.out, by rw [List.append_nil]; exact h, hx⟩
  · obtain ⟨v', w', h1, h3, h4, _⟩ := h.app (B := B) g 0 cap (fun j u hj => by
      have hjl := (List.getElem?_eq_some_iff.1 hj).1
      rw [Go.WideShapes.add_plain, Nat.zero_add]
      have := h2.out.cellAt j (by simpa using hjl)
      rw [this, hj]) (fun x hx => (h2.row x hx).down hbb) h2.apart hAB hv hn hb
    exact ⟨v', w', h1, h3, Below.grown hx h4 hx.size (fun j hj => by have := (hblk j hj).1; omega)⟩
/-- the tail of an array put behind an array -/
theorem join_tail {w W : World} {base base2 g2 c2 : Nat} {v : Value} {A B : List Row} {y0 : Row} (hwb : w.heap.size ≤ base) (hx : Ext w W) (h : OwnA W base v A) (h2 : OwnA W base2 (.slice (some ⟨g2, 0, none⟩) (B.length + 1) c2) (y0 :: B)) (hAB : ∀ x ∈ A, ∀ y ∈ B, x.h ≠ y.h) (hv : ∀ y ∈ B, v.ownBlock ≠ some y.h) (hn : A.length + B.length ≤ 100000) (hbb : base ≤ base2) (hb : base ≤ W.heap.size) (off : Nat) (ho : B ≠ [] → off = 1) (cc : Nat) :
    ∃ v' W', (Builtin.append_ #[24, 24] 24 #[v, .slice (some ⟨g2, off, none⟩) B.length cc]).run Try.prog W = .ok v' W' ∧ OwnA W' base v' (A ++ B) ∧ Ext w W' := by
  have hblk := h.out.lt
  have hap := h2.apart
  rw [List.map_cons, List.nodup_cons] at hap
  obtain ⟨v', w', h1, h3, h4, _⟩ := h.app (B := B) g2 off cc (fun j u hj => by
    have hjl := (List.getElem?_eq_some_iff.1 hj).1
    rw [List.length_map] at hjl
    obtain rfl := ho (fun e => by rw [e] at hjl; simp at hjl)
    rw [Go.WideShapes.add_plain]
    have := h2.out.cellAt (1 + j) (by simp; omega)
    rw [this, ← hj, Nat.add_comm 1 j]
    simp) (fun x hx => (h2.row x (by simp [hx])).down hbb) hap.2 hAB hv hn hb
  exact ⟨v', w', h1, h3, Below.grown hx h4 hx.size (fun j hj => by have := (hblk j hj).1; omega)⟩
/-- how take ends -/
def TakPost (RL : List (List Int)) (key : Int) (w : World) (e : Ending) (w' : World) : Prop := ∃ v RR, e = .returned (.tuple #[v, .int .i64 key]) ∧ OwnA w' w.heap.size v RR ∧ RR.map Row.l = RL ∧ Ext w w'

set_option maxHeartbeats 16000000 in
theorem rtake_any (b : Int) (hb : roomB b = true) (P : Option Addr) (cap : Nat) (Q : Nat → Option Addr) (C : Nat → Nat) (LL : List (List Int)) (index : Nat) (w : World) (h : SlA w P cap Q C LL) (hblk : BlocksOk b LL) (hi : index < LL.flatten.length) (ht : LL.flatten.length ≤ 600) :
    Calls Try.prog 59 #[.int .i64 b, .slice P LL.length cap, .int .i64 index] w (TakPost (remF b LL index) (nthI LL.flatten index) w) := by
  have hne : ∀ l ∈ LL, l ≠ [] := fun l hl => (hblk l hl).1
  have hlen := h.len
  have hll := len_le_flat LL hne
  have hb2 := roomB_t hb
  have hR := rspot_any P cap Q C LL index w h (by omega) (by omega) (by omega)
  have hS := spotF_spot (LL := LL) (index := index) (fun e => by subst e; simp at hi) (by omega)
  rw [spotF_in hi] at hS
  rw [spotQ_spot hS] at hR
  have hloc := locQ_lt LL index hi
  have hkey := nthI_locQ hi
  have hrem : remF b LL index = takeAt b LL (locQ LL index).1 (locQ LL index).2 := rfl
  simp only at hR
  obtain ⟨hq, hp, hqp⟩ := hloc
  obtain ⟨q, hq'⟩ : ∃ q, (locQ LL index).1 = q := ⟨_, rfl⟩
  obtain ⟨p, hp'⟩ : ∃ p, (locQ LL index).2 = p := ⟨_, rfl⟩
  rw [hq', hp'] at hp hqp hkey hrem
  rw [hq'] at hR hq
  obtain ⟨key, hk'⟩ : ∃ key, nthI LL.flatten index = key := ⟨_, rfl⟩
  rw [hk'] at hkey ⊢
  have hqp : lenT LL q + p = index := hqp
  clear hq' hp' hS hk'
  obtain ⟨ba, offa, rfl, hcq⟩ := h.at_ q hq
  have hrow := h.row q hq
  obtain ⟨b2, off2, hQ⟩ := slI_some hrow (hne _ (nthA_mem hq))
  rw [hQ] at hrow hcq
  obtain ⟨_, _, e5, hck⟩ := hrow.at_ p hp
  simp only [Option.some.injEq, Addr.mk.injEq, and_true] at e5
  obtain ⟨rfl, rfl⟩ := e5
  rw [hkey] at hck
  have hbq := (hblk _ (nthA_mem hq)).2
  have hrl := hrow.le
  have hrc := hrow.cap
  have d2 : IntKind.i64.wrap ((index : Int) - (lenT LL q : Nat)) = (p : Int) := by rw [IntWalk.i64_in _ ⟨by omega, by omega⟩]; omega
  have d3 : IntKind.i64.wrap ((p : Int) + 1) = (p : Int) + 1 := IntWalk.i64_in _ ⟨by omega, by omega⟩
  have s1 := slice_from b2 off2 (nthA LL q).length (C q) (p + 1) (by omega) hrl 22 (by kernel_rfl) (by kernel_rfl)
  have ecast : ((p + 1 : Nat) : Int) = (p : Int) + 1 := by omega
  rw [ecast] at s1
  have i1 := hrow.takes p (by omega)
  have i2 := hrow.from (p + 1) (by omega)
  have e1 : ((nthA LL q).take p).length = p := by rw [List.length_take]; omega
  have e2 : ((nthA LL q).drop (p + 1)).length = (nthA LL q).length - (p + 1) := List.length_drop
  have hL' : (nthA LL q).take p ++ (nthA LL q).drop (p + 1) = (nthA LL q).eraseIdx p := (List.eraseIdx_eq_take_drop_succ ..).symm
  generalize hoff : (if C q = p + 1 then off2 else off2 + (p + 1)) = off3 at *
  have g1 : (q : Int) < LL.length := by omega
  have g2 : (p : Int) < (nthA LL q).length := by omega
  have g3 : (p : Int) ≤ (C q : Int) := by omega
  have g4 : (p : Int) ≤ (nthA LL q).length := by omega
  have g5 : (p : Int) + 1 ≤ (nthA LL q).length := by omega
  have hcq' := World.new_ne w _ hcq
  obtain ⟨m, hm⟩ : ∃ m, ((nthA LL q).eraseIdx p).length = m := ⟨_, rfl⟩
  have hm' : m + 1 = (nthA LL q).length := by rw [List.length_eraseIdx, if_pos (by omega)] at hm; omega
  have hl1 : (LL.take q).length = q := by rw [List.length_take]; omega
  have hl2 : (LL.drop (q + 1)).length = LL.length - (q + 1) := List.length_drop
  have hf1 : (LL.take q).flatten.length ≤ 1000 := by have : lenT LL q ≤ 600 := by omega
                                                     unfold lenT at this; omega
  have hf2 : (LL.drop (q + 1)).flatten.length ≤ 1000 := by
    have h1 := congrArg (fun l => (List.flatten l).length) (List.take_append_drop (q + 1) LL)
    simp only [List.flatten_append, List.length_append] at h1
    omega
  have hc1 : ∀ W, Ext w W → Calls Try.prog 63 #[.slice (some ⟨ba, offa, none⟩) q cap] W (OwdPost (LL.take q) W) := fun W hW => by
    have := copied_t (some ⟨ba, offa, none⟩) cap Q C (LL.take q) W ((h.take q).ext hW) (fun l hl => hne l (List.mem_of_mem_take hl)) hf1
    rw [hl1] at this
    exact this
  have hc2 : ∃ off9, (∀ w, (Instr.slice 24 (.slice (some ⟨ba, offa, none⟩) LL.length cap) (some (.int .i64 ((q : Int) + 1))) none none).run Try.prog w = .ok (.slice (some ⟨ba, off9, none⟩) (LL.length - (q + 1)) (cap - (q + 1))) w) ∧
      ∀ W, Ext w W → Calls Try.prog 63 #[.slice (some ⟨ba, off9, none⟩) (LL.length - (q + 1)) (cap - (q + 1))] W (OwdPost (LL.drop (q + 1)) W) := by
    refine ⟨_, slice_from ba offa LL.length cap (q + 1) (by omega) h.le 24 (by kernel_rfl) (by kernel_rfl), fun W hW => ?_⟩
    have := copied_t _ _ _ _ (LL.drop (q + 1)) W ((h.from (q + 1) (by omega)).ext hW) (fun l hl => hne l (List.mem_of_mem_drop hl)) hf2
    rw [hl2] at this
    exact this
  obtain ⟨off9, hs9, hc2⟩ := hc2
  have w9 : IntKind.i64.wrap ((q : Int) + 1) = (q : Int) + 1 := IntWalk.i64_in _ ⟨by omega, by omega⟩
  have hlq : (q : Int) ≤ cap := by have := h.le; omega
  have hq1 : (q : Int) + 1 ≤ LL.length := by omega
  have hcap := h.cap
  obtain ⟨L, hLe⟩ : ∃ L, (nthA LL q).eraseIdx p = L := ⟨_, rfl⟩
  rw [hLe] at hL' hm
  generalize hr' : nthA LL q = r at *
  have HR' := Lib.hid hr'
  have HQ := Lib.hid hQ
  have Hqp := Lib.hid hqp
  have Hm' := Lib.hid hm'
  have Hm := Lib.hid hm
  have HL := Lib.hid hL'
  have HLe := Lib.hid hLe
  have Hrem := Lib.hid hrem
  have E1 := Lib.hid e1
  have E2 := Lib.hid e2
  have Hl1 := Lib.hid hl1
  have Hl2 := Lib.hid hl2
  have hm1 : m ≤ 600 := by omega
  clear hoff hr' hQ hqp hm' hm hL' hLe hrem e1 e2 hl1 hl2 hkey ecast hf1 hf2
  unfold OwdPost at hc1 hc2
  go_enter Try.func59, Try.ntmps59
  go_wp2_with (go_at_call 50; refine hR.mono ?_; rintro e w1 ⟨rfl, rfl⟩)
  go_region_held3 (fun w' => w'.cell? ⟨ba, offa + q, none⟩ = some (.slice (some ⟨b2, off2, none⟩) r.length (C q))) (first | go_keep | (refine Ext.cell ?_ hcq; (repeat (first | exact Ext.refl _ | assumption | refine Ext.drew ?_ | refine Ext.alloc ?_ _))))
    (first
      | (refine step_app_fresh w ?_ (.tmp 32) (.tmp 38) ?_ ?_ ?_ (r.take p) p b2 off2 (C q) ?_ ?_ E1.out ?_ ?_ (i1.ext ?_) ?_ ?_ ?_
         · rfl
         · rfl
         · rfl
         rotate_left 1
         · rfl
         · rfl
         · (first | (refine alloc_at _ _ _ ?_; (simp; done)) | (refine ((Ext.refl _).alloc _).heap (alloc_at _ _ _ ?_); (simp; done)))
         · (simp; done)
         · (repeat (first | exact Ext.refl _ | assumption | refine Ext.drew ?_ | refine Ext.alloc ?_ _))
         · omega
         · (repeat (first | exact Ext.refl _ | assumption | refine Ext.drew ?_ | refine Ext.alloc ?_ _))
         intro v2 W2 ho2 hx2 hk2 hb2)
      | (refine step_app_ints w ?_ (.tmp 39) (.tmp 46) ?_ ?_ ?_ (r.take p) (r.drop (p + 1)) (r.length - (p + 1)) b2 off3 (C q - (p + 1)) ?_ ?_ E2.out ?_ (i2.ext ?_) ?_ ?_ ?_
         · rfl
         · rfl
         · rfl
         rotate_left 1
         · rfl
         · rfl
         · exact ho2
         · (repeat (first | exact Ext.refl _ | assumption | refine Ext.drew ?_ | refine Ext.alloc ?_ _))
         · rw [E1.out]; omega
         · (repeat (first | exact Ext.refl _ | assumption | refine Ext.drew ?_ | refine Ext.alloc ?_ _))
         intro v4 W4 ho4 hx4 hk4 hb4
         clear hk2 hk4)
      | fail)
  rw [HL.out] at ho4
  have hv4 : ∃ P4 c4, v4 = .slice P4 m c4 := by
    obtain ⟨P4, c4, rfl, _⟩ := slI_of_row ho4
    exact ⟨P4, c4, by rw [Hm.out]⟩
  obtain ⟨P4, c4, rfl⟩ := hv4
  have HO4 := Lib.hid ho4
  clear ho4 ho2 hx2 hb2 hb4 s1 i1 i2
  go_wp2
  go_region_held3 (fun _ => True) (trivial)
    (first
      | (go_at_call 63; (with_reducible refine (hc1 _ (by exact hx4.drew)).mono ?_); rintro e W5 ⟨v5, R5, rfl, hO5, hT5, hm5, hx5⟩; have HM5 := Lib.hid hm5; have HT5 := Lib.hid hT5; have HO5 := Lib.hid hO5; clear hm5 hT5 hO5)
      | (go_at_call 63; (with_reducible refine (hc2 _ (by exact (hx4.drew).trans hx5)).mono ?_); rintro e W7 ⟨v7, R7, rfl, hO7, hT7, hm7, hx7⟩; have HM7 := Lib.hid hm7; have HO7 := Lib.hid hO7; clear hm7 hT7 hO7)
      | fail)
  have hn1 : ∀ {RR : List Row} {X : List (List Int)}, RR.map Row.l = X → RR.length = X.length := fun h => by rw [← h, List.length_map]
  have hl5 := hn1 HM5.out
  rw [Hl1.out] at hl5
  have hl7 := hn1 HM7.out
  rw [Hl2.out] at hl7
  have z4 := hx4.size
  have z5 := Ext.size hx5
  have z7 := hx7.size
  have zd : W4.drew.heap.size = W4.heap.size := rfl
  rw [zd] at z5
  have hx47 : Ext W4 W7 := ((Ext.refl W4).drew).trans (hx5.trans hx7)
  have hxw7 := hx4.trans hx47
  have hO5' : OwnA W7 w.heap.size v5 R5 := (HO5.out.ext hx7).down (by rw [zd]; exact z4)
  have hO7 := HO7.out
  have hg5 : ∀ x ∈ R5, W4.heap.size ≤ x.h ∧ x.h < W5.heap.size := fun x hx => ⟨HO5.out.ge hx, HO5.out.lt hx⟩
  have hv5 : ∀ k, v5.ownBlock = some k → W4.heap.size ≤ k ∧ k < W5.heap.size := fun k e => HO5.out.out.lt k e
  have hg7 : ∀ x ∈ R7, W5.heap.size ≤ x.h ∧ x.h < W7.heap.size := fun x hx => ⟨hO7.ge hx, hO7.lt hx⟩
  have Hall : Hid (OwnA W7 w.heap.size v5 R5 ∧ (∀ x ∈ R5, W4.heap.size ≤ x.h ∧ x.h < W5.heap.size) ∧ (∀ k, v5.ownBlock = some k → W4.heap.size ≤ k ∧ k < W5.heap.size) ∧ (∀ x ∈ R7, W5.heap.size ≤ x.h ∧ x.h < W7.heap.size) ∧ w.heap.size ≤ W4.heap.size ∧ W4.heap.size ≤ W5.heap.size ∧ W5.heap.size ≤ W7.heap.size ∧ R5.length = q ∧ R7.length = LL.length - (q + 1)) := Lib.hid ⟨hO5', hg5, hv5, hg7, z4, z5, z7, hl5, hl7⟩
  clear hO5' hO7 hg5 hv5 hg7 z4 z5 z7 zd hl5 hl7 hc1 hc2 hR
  by_cases h0 : m = 0
  · have hLn : L = [] := List.length_eq_zero_iff.1 (by rw [Hm.out, h0])
    obtain ⟨k1, k2, k3, k4, k5, k6, k7, k8, k9⟩ := Hall.out
    obtain ⟨v8, W8, hrun8, hO8, hx8⟩ := join_gen (Nat.le_refl _) hxw7 k1 HO7.out (fun x hx y hy => by have h1 := k2 x hx; have h2 := k4 y hy; omega) (fun y hy e => by have h1 := k3 _ e; have h2 := k4 y hy; omega) (by omega) (by omega) (by omega)
    have Hfin : Hid (OwnA W8 w.heap.size v8 (R5 ++ R7) ∧ Ext w W8) := Lib.hid ⟨hO8, hx8⟩
    have d1 : ((m : Int) == 0) = true := by simp [h0]
    clear k1 k2 k3 k4 k5 k6 k7 k8 k9 hO8 hx8
    go_wp2_with (at_builtin; refine Lib.wpList_append_run _ rfl _ _ _ _ rfl _ _ rfl rfl _ _ hrun8 ?_)
    go_ret2
    refine ⟨v8, R5 ++ R7, rfl, Hfin.out.1, ?_, Hfin.out.2⟩
    rw [List.map_append, HM5.out, HM7.out, Hrem.out, takeAt_nil (by rw [HR'.out, HLe.out, hLn])]
  · have hLn : L ≠ [] := fun e => h0 (by rw [← Hm.out, e]; rfl)
    obtain ⟨g, c', e4, hT4⟩ := TightB.of HO4.out hLn
    simp only [Value.slice.injEq] at e4
    obtain ⟨rfl, em, rfl⟩ := e4
    clear em
    have d1 : ((m : Int) == 0) = false := by simp; omega
    have b1 : IntKind.i64.wrap (b + 1) = b + 1 := IntWalk.i64_in _ ⟨by omega, by omega⟩
    have heL : (nthA LL q).eraseIdx p = L := by rw [HR'.out]; exact HLe.out
    by_cases h1 : (b + 1) / 2 ≤ (m : Int)
    · have htk := takeAt_big (b := b) heL hLn (by rw [Hm.out]; exact h1)
      have Htk := Lib.hid htk
      have d2 : ¬ (m : Int) < (b + 1) / 2 := by omega
      clear htk heL h0
      obtain ⟨k1, k2, k3, k4, k5, k6, k7, k8, k9⟩ := Hall.out
      have hgW : g < W4.heap.size := hT4.inB.lt
      obtain ⟨v8, W8, hrun8, hO8, hx8, hgr8, hb8⟩ := app_one_g (w := w) (W := W7) (r := ⟨g, c4, L⟩) (Nat.le_refl _) (by omega) hxw7 k1 (hT4.ext hx47).inB (fun x hx => by have h1 := k2 x hx; simp only; omega) (fun e => by have h1 := k3 _ e; simp only at h1; omega) (by omega)
      simp only [Hm.out] at hrun8
      have hO78 := (HO7.out.ext ((Ext.refl W7).alloc (.cells #[.slice (some ⟨g, 0, none⟩) L.length c4] 22))).grown hgr8 (by
        cases e : v5.ownBlock with
        | none => exact .inl rfl
        | some k => exact .inr (fun e2 => by have h1 := (k3 _ e).2; have h2 := (HO7.out.out.lt k e2.symm).1; omega)) (fun y hy e => by have h1 := k3 _ e; have h2 := k4 y hy; omega)
      obtain ⟨v9, W9, hrun9, hO9, hx9⟩ := join_gen (w := w) (Nat.le_refl _) hx8 hO8 hO78 (fun x hx y hy => by
        have h2 := k4 y hy
        rcases List.mem_append.1 hx with h3 | h3
        · have h1 := k2 x h3; omega
        · simp at h3; subst h3; simp only; omega) (fun y hy e => by
        have h2 := k4 y hy
        rcases hb8 with h3 | ⟨k, h3, h4⟩
        · rw [h3] at e; have h1 := k3 _ e; omega
        · rw [h3] at e; injection e with e; omega) (by simp; omega) (by omega) (by have := hx8.size; omega)
      have Hfin : Hid (OwnA W9 w.heap.size v9 (R5 ++ [⟨g, c4, L⟩] ++ R7) ∧ Ext w W9) := Lib.hid ⟨hO9, hx9⟩
      clear k1 k2 k3 k4 k5 k6 k7 k8 k9 hO8 hx8 hgr8 hb8 hO78 hO9 hx9 hgW hT4
      go_wp2_with (first
        | (at_builtin; refine Lib.wpList_append_run _ rfl _ _ _ _ rfl _ _ rfl rfl _ _ hrun8 ?_)
        | (at_builtin; refine Lib.wpList_append_run _ rfl _ _ _ _ rfl _ _ rfl rfl _ _ hrun9 ?_))
      go_ret2
      refine ⟨v9, R5 ++ [⟨g, c4, L⟩] ++ R7, rfl, Hfin.out.1, ?_, Hfin.out.2⟩
      rw [List.map_append, List.map_append, HM5.out, HM7.out, Hrem.out, Htk.out]
      simp
    · have d2 : (m : Int) < (b + 1) / 2 := by omega
      have hsm : ¬ (b + 1) / 2 ≤ (L.length : Int) := by rw [Hm.out]; exact h1
      have hsh : ∀ {W : World} {bs : Nat} {v : Value} {RR : List Row}, OwnA W bs v RR → ∃ P c, v = .slice P RR.length c ∧ (RR.length ≠ 0 → ∃ g, P = some ⟨g, 0, none⟩) := fun h => by
        rcases h.cases with ⟨rfl, rfl⟩ | ⟨g, c, rfl, _⟩
        · exact ⟨none, 0, rfl, fun e => absurd rfl e⟩
        · exact ⟨_, c, rfl, fun _ => ⟨g, rfl⟩⟩
      obtain ⟨P7, c7, hv7, hP7⟩ := hsh HO7.out
      obtain ⟨P5, c5, hv5, hP5⟩ := hsh Hall.out.1
      obtain ⟨n7, hn7⟩ : ∃ n7, R7.length = n7 := ⟨_, rfl⟩
      have hq5 : R5.length = q := Hall.out.2.2.2.2.2.2.2.1
      have hn7e : n7 = LL.length - (q + 1) := hn7.symm.trans Hall.out.2.2.2.2.2.2.2.2
      rw [hn7] at hv7 hP7
      rw [hq5] at hv5 hP5
      subst hv7 hv5
      have Hn7 := Lib.hid hn7
      have Hn7e := Lib.hid hn7e
      have hn7b : n7 ≤ 600 := by omega
      have hqb : q ≤ 600 := by omega
      clear hsh hn7
      by_cases hN : q + 1 < LL.length ∧ ((L.length + (nthA LL (q + 1)).length : Nat) : Int) ≤ b
      · obtain ⟨hN1, hN2⟩ := hN
        have hn70 : n7 ≠ 0 := by omega
        obtain ⟨g7, hg7⟩ := hP7 hn70
        subst hg7
        have htk := takeAt_next (b := b) heL hLn hsm ⟨hN1, hN2⟩
        obtain ⟨x0, R8, hR7⟩ : ∃ x0 R8, R7 = x0 :: R8 := by
          cases hR : R7 with
          | nil => rw [hR] at Hn7; have := Hn7.out; simp at this; omega
          | cons x0 R8 => exact ⟨x0, R8, rfl⟩
        subst hR7
        obtain ⟨n8, hn8⟩ : ∃ n8, R8.length = n8 := ⟨_, rfl⟩
        have hn87 : n7 = n8 + 1 := by have := Hn7.out; simp at this; omega
        have hx0 : x0.l = nthA LL (q + 1) := by
          have h3 := HM7.out
          rw [nthA_drop hN1] at h3
          simp only [List.map_cons, List.cons.injEq] at h3
          exact h3.1
        have hR8 : R8.map Row.l = LL.drop (q + 2) := by
          have h3 := HM7.out
          rw [nthA_drop hN1] at h3
          simp only [List.map_cons, List.cons.injEq] at h3
          exact h3.2
        have hx0b := (hblk _ (nthA_mem hN1)).2
        rw [← hx0] at hx0b hN2 htk
        subst hn87
        have HO7' := HO7.out
        have hlen78 : (x0 :: R8).length = n8 + 1 := by rw [List.length_cons, hn8]
        have ho7 := HO7'.out
        rw [hlen78] at ho7
        have hcx : W7.cell? ⟨g7, 0, none⟩ = some (.slice (some ⟨x0.h, 0, none⟩) x0.l.length x0.c) := by
          have := ho7.cellAt 0 (show 0 < (n8 + 1) * 1 by omega)
          rw [this]
          simp [Row.v]
        have hTl := hT4.ext hx47
        have hxi := (HO7'.row x0 (by simp)).slI
        obtain ⟨k1, k2, k3, k4, k5, k6, k7, k8, k9⟩ := Hall.out
        have hgW : g < W4.heap.size := hT4.inB.lt
        have hx0g := k4 x0 (by simp)
        obtain ⟨v9, W9, hrun9, ho9, hg9, hb9⟩ := append_ints W7 w.heap.size (.slice (some ⟨g, 0, none⟩) L.length c4) L x0.l x0.h 0 x0.c hTl hxi (by rw [Hm.out]; omega) (by omega)
        obtain ⟨g9, c9, rfl, hT9⟩ := TightB.of ho9 (fun e => hLn (List.append_eq_nil_iff.1 e).1)
        rw [Hm.out] at hrun9
        have hl9 : (L ++ x0.l).length = m + x0.l.length := by rw [List.length_append, Hm.out]
        rw [hl9] at hrun9
        have hg9c : g9 = g ∨ g9 = W7.heap.size := by rcases hb9 with e | e <;> (simp only [Value.ownBlock, Option.some.injEq] at e; omega)
        have k1' := OwnA.grown k1 hg9 (.inr (fun e => by have h3 := (k3 g e.symm).1; omega)) (fun x hx e => by have h3 := k2 x hx; simp only [Value.ownBlock, Option.some.injEq] at e; omega)
        have HO79 := OwnA.grown HO7' hg9 (.inr (fun e => by have h3 := (HO7'.out.lt g e.symm).1; omega)) (fun x hx e => by have h3 := k4 x hx; simp only [Value.ownBlock, Option.some.injEq] at e; omega)
        have hx9 : Ext w W9 := Below.grown hxw7 hg9 hxw7.size (fun j hj => by simp only [Value.ownBlock, Option.some.injEq] at hj; have := hT4.inB.1; simp only at this; omega)
        have hz9 : W7.heap.size ≤ W9.heap.size := hg9.size
        obtain ⟨v8, W8, hrun8, hO8, hx8, hgr8, hb8⟩ := app_one_g (w := w) (W := W9) (r := ⟨g9, c9, L ++ x0.l⟩) (Nat.le_refl _) hx9.size hx9 k1' hT9.inB (fun x hx => by have h3 := k2 x hx; simp only; omega) (fun e => by have h3 := k3 _ e; simp only at h3; omega) (by omega)
        simp only [hl9] at hrun8
        have HO78 := (HO79.ext ((Ext.refl W9).alloc (.cells #[.slice (some ⟨g9, 0, none⟩) (L ++ x0.l).length c9] 22))).grown hgr8 (by
          cases e : (Value.slice P5 q c5).ownBlock with
          | none => exact .inl rfl
          | some k => exact .inr (fun e2 => by have h3 := (k3 _ e).2; have h4 := (HO7'.out.lt k e2.symm).1; omega)) (fun y hy e => by have h3 := k3 _ e; have h4 := k4 y hy; omega)
        have hc7 : n8 + 1 ≤ c7 := by
          rcases HO7'.cases with ⟨e, _⟩ | ⟨_, _, e, _, e2, _⟩
          · simp at e
          · simp only [Value.slice.injEq] at e
            have := Hn7.out
            omega
        obtain ⟨off7, hof7, hs7⟩ : ∃ off7, (R8 ≠ [] → off7 = 1) ∧ ∀ w, (Instr.slice 24 (.slice (some ⟨g7, 0, none⟩) (n8 + 1) c7) (some (.int .i64 1)) none none).run Try.prog w = .ok (.slice (some ⟨g7, off7, none⟩) n8 (c7 - 1)) w := by
          refine ⟨_, fun e => ?_, slice_from g7 0 (n8 + 1) c7 1 (by omega) hc7 24 (by kernel_rfl) (by kernel_rfl)⟩
          have := List.length_pos_iff.2 e
          rw [if_neg (by omega)]
        rw [← hn8] at HO78
        obtain ⟨v10, W10, hrun10, hO10, hx10⟩ := join_tail (w := w) (B := R8) (y0 := x0) (Nat.le_refl _) hx8 hO8 HO78 (fun x hx y hy => by
          have h2 := k4 y (by simp [hy])
          rcases List.mem_append.1 hx with h3 | h3
          · have h4 := k2 x h3; omega
          · simp at h3; subst h3; simp only; omega) (fun y hy e => by
          have h2 := k4 y (by simp [hy])
          rcases hb8 with h3 | ⟨k, h3, h4⟩
          · rw [h3] at e; have h4 := k3 _ e; omega
          · rw [h3] at e; injection e with e; omega) (by simp; omega) (by omega) hx8.size off7 hof7 (c7 - 1)
        rw [hn8] at hrun10
        have Hfin : Hid (OwnA W10 w.heap.size v10 (R5 ++ [⟨g9, c9, L ++ x0.l⟩] ++ R8) ∧ Ext w W10) := Lib.hid ⟨hO10, hx10⟩
        have Htk := Lib.hid htk
        have HR8 := Lib.hid hR8
        have u1 : (0 : Int) < ((n8 + 1 : Nat) : Int) := by omega
        have u2 : IntKind.i64.wrap ((m : Int) + x0.l.length) = (m : Int) + x0.l.length := IntWalk.i64_in _ ⟨by omega, by omega⟩
        have u3 : (m : Int) + x0.l.length ≤ b := by rw [← Hm.out]; omega
        clear k1 k2 k3 k4 k5 k6 k7 k8 k9 hO8 hx8 hgr8 hb8 HO78 hO10 hx10 hgW hT4 hTl hxi hx0g ho9 hg9 hb9 hT9 hl9 hg9c k1' HO79 hx9 hz9 htk hR8 hN1 hN2 hx0 HO7' hof7 hn8 heL hsm hn7e hP5 hP7
        go_wp2_with (first
          | (at_builtin; refine Lib.wpList_append_run _ rfl _ _ _ _ rfl _ _ rfl rfl _ _ hrun9 ?_)
          | (at_builtin; refine Lib.wpList_append_run _ rfl _ _ _ _ rfl _ _ rfl rfl _ _ hrun8 ?_)
          | (at_builtin; refine Lib.wpList_append_run _ rfl _ _ _ _ rfl _ _ rfl rfl _ _ hrun10 ?_))
        go_ret2
        refine ⟨v10, R5 ++ [⟨g9, c9, L ++ x0.l⟩] ++ R8, rfl, Hfin.out.1, ?_, Hfin.out.2⟩
        rw [List.map_append, List.map_append, HM5.out, HR8.out, Hrem.out, Htk.out]
        simp
      · by_cases hn70 : n7 = 0
        · have u1 : ¬ ((0 : Int) < (n7 : Int)) := by omega
          have u1' : decide ((0 : Int) < (n7 : Int)) = false := by simp; omega
          by_cases hP : 0 < q ∧ (((nthA LL (q - 1)).length + L.length : Nat) : Int) ≤ b
          · obtain ⟨hP1, hP2⟩ := hP
            have htk := takeAt_prior (b := b) heL hLn hsm hN ⟨hP1, hP2⟩
            obtain ⟨f, hqf⟩ : ∃ f, q = f + 1 := ⟨q - 1, by omega⟩
            obtain ⟨g5, hg5⟩ := hP5 (by omega)
            subst hg5
            obtain ⟨t, htt⟩ : ∃ t, nthR R5 f = t := ⟨_, rfl⟩
            have hfl : f < R5.length := by omega
            have hsp5 := splitR hfl
            have hdr : R5.drop (f + 1) = [] := List.drop_eq_nil_iff.2 (by omega)
            have hA5 : (R5.take f).length = f := by rw [List.length_take]; omega
            rw [htt, hdr] at hsp5
            obtain ⟨R5a, hR5a⟩ : ∃ R5a, R5.take f = R5a := ⟨_, rfl⟩
            rw [hR5a] at hsp5 hA5
            have htl : t.l = nthA LL (q - 1) := by
              have h3 := nthA_map R5 f hfl
              rw [HM5.out, htt] at h3
              rw [← h3, show q - 1 = f by omega]
              simp [nthA, List.getD_eq_getElem?_getD, show f < q by omega]
            have htb : (t.l.length : Int) ≤ b := by rw [htl]; exact (hblk _ (nthA_mem (by omega))).2
            have htm : t ∈ R5 := by rw [← htt]; exact nthR_mem hfl
            have hTt := (HT5.out t htm).ext hx7
            obtain ⟨k1, k2, k3, k4, k5, k6, k7, k8, k9⟩ := Hall.out
            have hct : W7.cell? ⟨g5, f, none⟩ = some (.slice (some ⟨t.h, 0, none⟩) t.l.length t.c) := by
              have h2 := k1.out
              rw [k8] at h2
              have h3 := h2.cellAt f (show f < q * 1 by omega)
              rw [h3, ← htt]
              simp [Row.v, nthR, List.getD_eq_getElem?_getD, hfl]
            have hft : W7.frozen? ⟨g5, f, none⟩ = false := by
              have h2 := k1.out
              rw [k8] at h2
              exact h2.frozenAt _
            have hTl := hT4.ext hx47
            have hgW : g < W4.heap.size := hT4.inB.lt
            have htg := k2 t htm
            have hg5b := k3 g5 rfl
            have hTt' : TightB W7 w.heap.size t := hTt.down (by rw [show W4.drew.heap.size = W4.heap.size from rfl]; omega)
            obtain ⟨v9, W9, hrun9, ho9, hg9, hb9⟩ := append_ints W7 w.heap.size (.slice (some ⟨t.h, 0, none⟩) t.l.length t.c) t.l L g 0 c4 hTt' hTl.inB.slI (by rw [Hm.out]; omega) (by omega)
            have hne9 : t.l ++ L ≠ [] := fun e => hLn (List.append_eq_nil_iff.1 e).2
            obtain ⟨g9, c9, rfl, hT9⟩ := TightB.of ho9 hne9
            have hl9 : (t.l ++ L).length = t.l.length + m := by rw [List.length_append, Hm.out]
            rw [Hm.out, hl9] at hrun9
            have hg9c : g9 = t.h ∨ g9 = W7.heap.size := by rcases hb9 with e | e <;> (simp only [Value.ownBlock, Option.some.injEq] at e; omega)
            have k1s := k1
            rw [hsp5] at k1s
            have hO10 := k1s.set_ (r' := ⟨g9, c9, t.l ++ L⟩) hg9 hT9.inB (by simpa using hg9c)
            rw [hA5] at hO10
            simp only [Row.v, hl9] at hO10
            have htg5 : t.h ≠ g5 := fun e => k1.far t htm (by rw [e]; rfl)
            have hu9 : Upd W7 t.h W9 := hg9
            have hct9 := hu9.cell hct (fun e => htg5 e.symm)
            have hft9 := grown_frozen hu9 hct hft (fun e => htg5 (by injection e with e; exact e.symm))
            have hz9 : W7.heap.size ≤ W9.heap.size := hg9.size
            have hx10 : Ext w (W9.setCell ⟨g5, f, none⟩ (.slice (some ⟨g9, 0, none⟩) (t.l.length + m) c9)) := Ext.setCell (Below.grown hxw7 hg9 hxw7.size (fun j hj => by simp only [Value.ownBlock, Option.some.injEq] at hj; omega)) (by simp only; omega) _
            have HO79 := OwnA.grown HO7.out hg9 (.inr (fun e => by have h3 := (HO7.out.out.lt t.h e.symm).1; omega)) (fun x hx e => by have h3 := k4 x hx; simp only [Value.ownBlock, Option.some.injEq] at e; omega)
            have HO710 := HO79.kept (Upd.setCell W9 g5 f (.slice (some ⟨g9, 0, none⟩) (t.l.length + m) c9)) (fun e => by have h3 := (HO79.out.lt g5 e).1; omega) (fun x hx e => by have h3 := k4 x hx; omega)
            obtain ⟨v11, W11, hrun11, hO11, hx11⟩ := join_gen (w := w) (Nat.le_refl _) hx10 hO10 HO710 (fun x hx y hy => by
              have h2 := k4 y hy
              rcases List.mem_append.1 hx with h3 | h3
              · have h4 := k2 x (by rw [hsp5]; simp [h3]); omega
              · simp at h3; subst h3; simp only; omega) (fun y hy e => by
              have h2 := k4 y hy
              simp only [Value.ownBlock, Option.some.injEq] at e
              omega) (by rw [List.length_append, hA5]; simp; omega) (by omega) hx10.size
            have Hfin : Hid (OwnA W11 w.heap.size v11 (R5a ++ [⟨g9, c9, t.l ++ L⟩] ++ R7) ∧ Ext w W11) := Lib.hid ⟨hO11, hx11⟩
            have hlen5 : (R5a ++ t :: ([] : List Row)).length = q := by rw [← hsp5]; exact k8
            have hlen6 : (R5a ++ (⟨g9, c9, t.l ++ L⟩ : Row) :: ([] : List Row)).length = q := by rw [← hlen5]; simp
            have hm5a : R5a.map Row.l = LL.take (q - 1) := by
              rw [← hR5a, List.map_take, HM5.out, List.take_take]
              congr 1
              omega
            have Htk := Lib.hid htk
            have Hm5a := Lib.hid hm5a
            have Htl := Lib.hid htl
            have y1 : IntKind.i64.wrap ((q : Int) - 1) = (f : Int) := by rw [IntWalk.i64_in _ ⟨by omega, by omega⟩]; omega
            have y2 : (f : Int) < (q : Int) := by omega
            have y3 : IntKind.i64.wrap ((m : Int) + t.l.length) = (m : Int) + t.l.length := IntWalk.i64_in _ ⟨by omega, by omega⟩
            have y4 : (m : Int) + t.l.length ≤ b := by rw [htl, ← Hm.out]; omega
            have hqnz : q ≠ 0 := by omega
            clear hn70 k1 k2 k3 k4 k5 k6 k7 k8 k9 k1s hO10 hx10 HO79 HO710 hO11 hx11 hgW hT4 hTl hTt hTt' ho9 hg9 hu9 hb9 hT9 hl9 hg9c hz9 htk hm5a htl hqf hsp5 hdr hR5a htt hlen5 hlen6 hft hne9 heL hsm hn7e hP1 hP2 hN htb hq5 hP7
            go_wp2_with (first
              | (at_builtin; refine Lib.wpList_append_run _ rfl _ _ _ _ rfl _ _ rfl rfl _ _ hrun9 ?_)
              | (at_builtin; refine Lib.wpList_append_run _ rfl _ _ _ _ rfl _ _ rfl rfl _ _ hrun11 ?_))
            go_ret2
            refine ⟨v11, R5a ++ [⟨g9, c9, t.l ++ L⟩] ++ R7, rfl, Hfin.out.1, ?_, Hfin.out.2⟩
            rw [List.map_append, List.map_append, Hm5a.out, HM7.out, Hrem.out, Htk.out, ← Htl.out]
            simp
          · have htk := takeAt_lone (b := b) heL hLn hsm hN hP
            have Htk := Lib.hid htk
            by_cases hq0 : q = 0
            · have hq0' : q = 0 := hq0
              have y1 : IntKind.i64.wrap ((q : Int) - 1) = -1 := by rw [IntWalk.i64_in _ ⟨by omega, by omega⟩]; omega
              clear hq0 hq0' hn70 heL hsm hn7e hN hP htk hq5 hP7 hP5
              obtain ⟨k1, k2, k3, k4, k5, k6, k7, k8, k9⟩ := Hall.out
              have hgW : g < W4.heap.size := hT4.inB.lt
              obtain ⟨v8, W8, hrun8, hO8, hx8, hgr8, hb8⟩ := app_one_g (w := w) (W := W7) (r := ⟨g, c4, L⟩) (Nat.le_refl _) (by omega) hxw7 k1 (hT4.ext hx47).inB (fun x hx => by have h1 := k2 x hx; simp only; omega) (fun e => by have h1 := k3 _ e; simp only at h1; omega) (by omega)
              simp only [Hm.out] at hrun8
              have hO78 := (HO7.out.ext ((Ext.refl W7).alloc (.cells #[.slice (some ⟨g, 0, none⟩) L.length c4] 22))).grown hgr8 (by
                cases e : (Value.slice P5 q c5).ownBlock with
                | none => exact .inl rfl
                | some k => exact .inr (fun e2 => by have h1 := (k3 _ e).2; have h2 := (HO7.out.out.lt k e2.symm).1; omega)) (fun y hy e => by have h1 := k3 _ e; have h2 := k4 y hy; omega)
              obtain ⟨v9, W9, hrun9, hO9, hx9⟩ := join_gen (w := w) (Nat.le_refl _) hx8 hO8 hO78 (fun x hx y hy => by
                have h2 := k4 y hy
                rcases List.mem_append.1 hx with h3 | h3
                · have h1 := k2 x h3; omega
                · simp at h3; subst h3; simp only; omega) (fun y hy e => by
                have h2 := k4 y hy
                rcases hb8 with h3 | ⟨k, h3, h4⟩
                · rw [h3] at e; have h1 := k3 _ e; omega
                · rw [h3] at e; injection e with e; omega) (by simp; omega) (by omega) (by have := hx8.size; omega)
              have Hfin : Hid (OwnA W9 w.heap.size v9 (R5 ++ [⟨g, c4, L⟩] ++ R7) ∧ Ext w W9) := Lib.hid ⟨hO9, hx9⟩
              clear k1 k2 k3 k4 k5 k6 k7 k8 k9 hO8 hx8 hgr8 hb8 hO78 hO9 hx9 hgW hT4
              go_wp2_with (first
                | (at_builtin; refine Lib.wpList_append_run _ rfl _ _ _ _ rfl _ _ rfl rfl _ _ hrun8 ?_)
                | (at_builtin; refine Lib.wpList_append_run _ rfl _ _ _ _ rfl _ _ rfl rfl _ _ hrun9 ?_))
              go_ret2
              refine ⟨v9, R5 ++ [⟨g, c4, L⟩] ++ R7, rfl, Hfin.out.1, ?_, Hfin.out.2⟩
              rw [List.map_append, List.map_append, HM5.out, HM7.out, Hrem.out, Htk.out]
              simp
            · obtain ⟨f, hqf⟩ : ∃ f, q = f + 1 := ⟨q - 1, by omega⟩
              obtain ⟨g5, hg5⟩ := hP5 (by omega)
              subst hg5
              obtain ⟨t, htt⟩ : ∃ t, nthR R5 f = t := ⟨_, rfl⟩
              have hfl : f < R5.length := by omega
              have htl : t.l = nthA LL (q - 1) := by
                have h3 := nthA_map R5 f hfl
                rw [HM5.out, htt] at h3
                rw [← h3, show q - 1 = f by omega]
                simp [nthA, List.getD_eq_getElem?_getD, show f < q by omega]
              have htb : (t.l.length : Int) ≤ b := by rw [htl]; exact (hblk _ (nthA_mem (by omega))).2
              have hct : W7.cell? ⟨g5, f, none⟩ = some (.slice (some ⟨t.h, 0, none⟩) t.l.length t.c) := by
                have h2 := Hall.out.1.out
                rw [hq5] at h2
                have h3 := h2.cellAt f (show f < q * 1 by omega)
                rw [h3, ← htt]
                simp [Row.v, nthR, List.getD_eq_getElem?_getD, hfl]
              have y1 : IntKind.i64.wrap ((q : Int) - 1) = (f : Int) := by rw [IntWalk.i64_in _ ⟨by omega, by omega⟩]; omega
              have y2 : (f : Int) < (q : Int) := by omega
              have y3 : IntKind.i64.wrap ((m : Int) + t.l.length) = (m : Int) + t.l.length := IntWalk.i64_in _ ⟨by omega, by omega⟩
              have y4 : ¬ ((m : Int) + t.l.length ≤ b) := fun hh => hP ⟨by omega, by rw [Hm.out, ← htl]; omega⟩
              clear htt hqf htl hfl htb
              clear hq0 hn70 heL hsm hn7e hN hP htk hq5 hP7 hP5
              obtain ⟨k1, k2, k3, k4, k5, k6, k7, k8, k9⟩ := Hall.out
              have hgW : g < W4.heap.size := hT4.inB.lt
              obtain ⟨v8, W8, hrun8, hO8, hx8, hgr8, hb8⟩ := app_one_g (w := w) (W := W7) (r := ⟨g, c4, L⟩) (Nat.le_refl _) (by omega) hxw7 k1 (hT4.ext hx47).inB (fun x hx => by have h1 := k2 x hx; simp only; omega) (fun e => by have h1 := k3 _ e; simp only at h1; omega) (by omega)
              simp only [Hm.out] at hrun8
              have hO78 := (HO7.out.ext ((Ext.refl W7).alloc (.cells #[.slice (some ⟨g, 0, none⟩) L.length c4] 22))).grown hgr8 (by
                cases e : (Value.slice (some ⟨g5, 0, none⟩) q c5).ownBlock with
                | none => exact .inl rfl
                | some k => exact .inr (fun e2 => by have h1 := (k3 _ e).2; have h2 := (HO7.out.out.lt k e2.symm).1; omega)) (fun y hy e => by have h1 := k3 _ e; have h2 := k4 y hy; omega)
              obtain ⟨v9, W9, hrun9, hO9, hx9⟩ := join_gen (w := w) (Nat.le_refl _) hx8 hO8 hO78 (fun x hx y hy => by
                have h2 := k4 y hy
                rcases List.mem_append.1 hx with h3 | h3
                · have h1 := k2 x h3; omega
                · simp at h3; subst h3; simp only; omega) (fun y hy e => by
                have h2 := k4 y hy
                rcases hb8 with h3 | ⟨k, h3, h4⟩
                · rw [h3] at e; have h1 := k3 _ e; omega
                · rw [h3] at e; injection e with e; omega) (by simp; omega) (by omega) (by have := hx8.size; omega)
              have Hfin : Hid (OwnA W9 w.heap.size v9 (R5 ++ [⟨g, c4, L⟩] ++ R7) ∧ Ext w W9) := Lib.hid ⟨hO9, hx9⟩
              clear k1 k2 k3 k4 k5 k6 k7 k8 k9 hO8 hx8 hgr8 hb8 hO78 hO9 hx9 hgW hT4
              go_wp2_with (first
                | (at_builtin; refine Lib.wpList_append_run _ rfl _ _ _ _ rfl _ _ rfl rfl _ _ hrun8 ?_)
                | (at_builtin; refine Lib.wpList_append_run _ rfl _ _ _ _ rfl _ _ rfl rfl _ _ hrun9 ?_))
              go_ret2
              refine ⟨v9, R5 ++ [⟨g, c4, L⟩] ++ R7, rfl, Hfin.out.1, ?_, Hfin.out.2⟩
              rw [List.map_append, List.map_append, HM5.out, HM7.out, Hrem.out, Htk.out]
              simp
        · obtain ⟨g7, hg7⟩ := hP7 hn70
          subst hg7
          have hN1 : q + 1 < LL.length := by omega
          obtain ⟨x0, hx0⟩ : ∃ x0, nthR R7 0 = x0 := ⟨_, rfl⟩
          have hn7c := Hn7.out
          have hx0l : x0.l = nthA LL (q + 1) := by
            have h3 := nthA_map R7 0 (by omega)
            rw [HM7.out, hx0] at h3
            rw [← h3]
            simp [nthA, List.getD_eq_getElem?_getD, List.getElem?_drop]
          have ho7 := HO7.out.out
          rw [hn7c] at ho7
          have hcx : W7.cell? ⟨g7, 0, none⟩ = some (.slice (some ⟨x0.h, 0, none⟩) x0.l.length x0.c) := by
            have h3 := ho7.cellAt 0 (show 0 < n7 * 1 by omega)
            rw [h3, ← hx0]
            simp [Row.v, nthR, List.getD_eq_getElem?_getD, show 0 < R7.length by omega]
          have hx0b := (hblk _ (nthA_mem hN1)).2
          rw [← hx0l] at hx0b
          have u1 : (0 : Int) < (n7 : Int) := by omega
          have u2 : IntKind.i64.wrap ((m : Int) + x0.l.length) = (m : Int) + x0.l.length := IntWalk.i64_in _ ⟨by omega, by omega⟩
          have u3 : ¬ ((m : Int) + x0.l.length ≤ b) := fun hh => hN ⟨hN1, by rw [Hm.out, ← hx0l]; omega⟩
          have Hxx := Lib.hid hx0l
          clear hx0 hx0l ho7 hn7c
          by_cases hP : 0 < q ∧ (((nthA LL (q - 1)).length + L.length : Nat) : Int) ≤ b
          · obtain ⟨hP1, hP2⟩ := hP
            have htk := takeAt_prior (b := b) heL hLn hsm hN ⟨hP1, hP2⟩
            obtain ⟨f, hqf⟩ : ∃ f, q = f + 1 := ⟨q - 1, by omega⟩
            obtain ⟨g5, hg5⟩ := hP5 (by omega)
            subst hg5
            obtain ⟨t, htt⟩ : ∃ t, nthR R5 f = t := ⟨_, rfl⟩
            have hfl : f < R5.length := by omega
            have hsp5 := splitR hfl
            have hdr : R5.drop (f + 1) = [] := List.drop_eq_nil_iff.2 (by omega)
            have hA5 : (R5.take f).length = f := by rw [List.length_take]; omega
            rw [htt, hdr] at hsp5
            obtain ⟨R5a, hR5a⟩ : ∃ R5a, R5.take f = R5a := ⟨_, rfl⟩
            rw [hR5a] at hsp5 hA5
            have htl : t.l = nthA LL (q - 1) := by
              have h3 := nthA_map R5 f hfl
              rw [HM5.out, htt] at h3
              rw [← h3, show q - 1 = f by omega]
              simp [nthA, List.getD_eq_getElem?_getD, show f < q by omega]
            have htb : (t.l.length : Int) ≤ b := by rw [htl]; exact (hblk _ (nthA_mem (by omega))).2
            have htm : t ∈ R5 := by rw [← htt]; exact nthR_mem hfl
            have hTt := (HT5.out t htm).ext hx7
            obtain ⟨k1, k2, k3, k4, k5, k6, k7, k8, k9⟩ := Hall.out
            have hct : W7.cell? ⟨g5, f, none⟩ = some (.slice (some ⟨t.h, 0, none⟩) t.l.length t.c) := by
              have h2 := k1.out
              rw [k8] at h2
              have h3 := h2.cellAt f (show f < q * 1 by omega)
              rw [h3, ← htt]
              simp [Row.v, nthR, List.getD_eq_getElem?_getD, hfl]
            have hft : W7.frozen? ⟨g5, f, none⟩ = false := by
              have h2 := k1.out
              rw [k8] at h2
              exact h2.frozenAt _
            have hTl := hT4.ext hx47
            have hgW : g < W4.heap.size := hT4.inB.lt
            have htg := k2 t htm
            have hg5b := k3 g5 rfl
            have hTt' : TightB W7 w.heap.size t := hTt.down (by rw [show W4.drew.heap.size = W4.heap.size from rfl]; omega)
            obtain ⟨v9, W9, hrun9, ho9, hg9, hb9⟩ := append_ints W7 w.heap.size (.slice (some ⟨t.h, 0, none⟩) t.l.length t.c) t.l L g 0 c4 hTt' hTl.inB.slI (by rw [Hm.out]; omega) (by omega)
            have hne9 : t.l ++ L ≠ [] := fun e => hLn (List.append_eq_nil_iff.1 e).2
            obtain ⟨g9, c9, rfl, hT9⟩ := TightB.of ho9 hne9
            have hl9 : (t.l ++ L).length = t.l.length + m := by rw [List.length_append, Hm.out]
            rw [Hm.out, hl9] at hrun9
            have hg9c : g9 = t.h ∨ g9 = W7.heap.size := by rcases hb9 with e | e <;> (simp only [Value.ownBlock, Option.some.injEq] at e; omega)
            have k1s := k1
            rw [hsp5] at k1s
            have hO10 := k1s.set_ (r' := ⟨g9, c9, t.l ++ L⟩) hg9 hT9.inB (by simpa using hg9c)
            rw [hA5] at hO10
            simp only [Row.v, hl9] at hO10
            have htg5 : t.h ≠ g5 := fun e => k1.far t htm (by rw [e]; rfl)
            have hu9 : Upd W7 t.h W9 := hg9
            have hct9 := hu9.cell hct (fun e => htg5 e.symm)
            have hft9 := grown_frozen hu9 hct hft (fun e => htg5 (by injection e with e; exact e.symm))
            have hz9 : W7.heap.size ≤ W9.heap.size := hg9.size
            have hx10 : Ext w (W9.setCell ⟨g5, f, none⟩ (.slice (some ⟨g9, 0, none⟩) (t.l.length + m) c9)) := Ext.setCell (Below.grown hxw7 hg9 hxw7.size (fun j hj => by simp only [Value.ownBlock, Option.some.injEq] at hj; omega)) (by simp only; omega) _
            have HO79 := OwnA.grown HO7.out hg9 (.inr (fun e => by have h3 := (HO7.out.out.lt t.h e.symm).1; omega)) (fun x hx e => by have h3 := k4 x hx; simp only [Value.ownBlock, Option.some.injEq] at e; omega)
            have HO710 := HO79.kept (Upd.setCell W9 g5 f (.slice (some ⟨g9, 0, none⟩) (t.l.length + m) c9)) (fun e => by have h3 := (HO79.out.lt g5 e).1; omega) (fun x hx e => by have h3 := k4 x hx; omega)
            obtain ⟨v11, W11, hrun11, hO11, hx11⟩ := join_gen (w := w) (Nat.le_refl _) hx10 hO10 HO710 (fun x hx y hy => by
              have h2 := k4 y hy
              rcases List.mem_append.1 hx with h3 | h3
              · have h4 := k2 x (by rw [hsp5]; simp [h3]); omega
              · simp at h3; subst h3; simp only; omega) (fun y hy e => by
              have h2 := k4 y hy
              simp only [Value.ownBlock, Option.some.injEq] at e
              omega) (by rw [List.length_append, hA5]; simp; omega) (by omega) hx10.size
            have Hfin : Hid (OwnA W11 w.heap.size v11 (R5a ++ [⟨g9, c9, t.l ++ L⟩] ++ R7) ∧ Ext w W11) := Lib.hid ⟨hO11, hx11⟩
            have hlen5 : (R5a ++ t :: ([] : List Row)).length = q := by rw [← hsp5]; exact k8
            have hlen6 : (R5a ++ (⟨g9, c9, t.l ++ L⟩ : Row) :: ([] : List Row)).length = q := by rw [← hlen5]; simp
            have hm5a : R5a.map Row.l = LL.take (q - 1) := by
              rw [← hR5a, List.map_take, HM5.out, List.take_take]
              congr 1
              omega
            have Htk := Lib.hid htk
            have Hm5a := Lib.hid hm5a
            have Htl := Lib.hid htl
            have y1 : IntKind.i64.wrap ((q : Int) - 1) = (f : Int) := by rw [IntWalk.i64_in _ ⟨by omega, by omega⟩]; omega
            have y2 : (f : Int) < (q : Int) := by omega
            have y3 : IntKind.i64.wrap ((m : Int) + t.l.length) = (m : Int) + t.l.length := IntWalk.i64_in _ ⟨by omega, by omega⟩
            have y4 : (m : Int) + t.l.length ≤ b := by rw [htl, ← Hm.out]; omega
            have hqnz : q ≠ 0 := by omega
            clear hn70 k1 k2 k3 k4 k5 k6 k7 k8 k9 k1s hO10 hx10 HO79 HO710 hO11 hx11 hgW hT4 hTl hTt hTt' ho9 hg9 hu9 hb9 hT9 hl9 hg9c hz9 htk hm5a htl hqf hsp5 hdr hR5a htt hlen5 hlen6 hft hne9 heL hsm hn7e hP1 hP2 hN htb hq5 hP7
            go_wp2_with (first
              | (at_builtin; refine Lib.wpList_append_run _ rfl _ _ _ _ rfl _ _ rfl rfl _ _ hrun9 ?_)
              | (at_builtin; refine Lib.wpList_append_run _ rfl _ _ _ _ rfl _ _ rfl rfl _ _ hrun11 ?_))
            go_ret2
            refine ⟨v11, R5a ++ [⟨g9, c9, t.l ++ L⟩] ++ R7, rfl, Hfin.out.1, ?_, Hfin.out.2⟩
            rw [List.map_append, List.map_append, Hm5a.out, HM7.out, Hrem.out, Htk.out, ← Htl.out]
            simp
          · have htk := takeAt_lone (b := b) heL hLn hsm hN hP
            have Htk := Lib.hid htk
            by_cases hq0 : q = 0
            · have hq0' : q = 0 := hq0
              have y1 : IntKind.i64.wrap ((q : Int) - 1) = -1 := by rw [IntWalk.i64_in _ ⟨by omega, by omega⟩]; omega
              clear hq0 hq0' hn70 heL hsm hn7e hN hP htk hq5 hP7 hP5
              obtain ⟨k1, k2, k3, k4, k5, k6, k7, k8, k9⟩ := Hall.out
              have hgW : g < W4.heap.size := hT4.inB.lt
              obtain ⟨v8, W8, hrun8, hO8, hx8, hgr8, hb8⟩ := app_one_g (w := w) (W := W7) (r := ⟨g, c4, L⟩) (Nat.le_refl _) (by omega) hxw7 k1 (hT4.ext hx47).inB (fun x hx => by have h1 := k2 x hx; simp only; omega) (fun e => by have h1 := k3 _ e; simp only at h1; omega) (by omega)
              simp only [Hm.out] at hrun8
              have hO78 := (HO7.out.ext ((Ext.refl W7).alloc (.cells #[.slice (some ⟨g, 0, none⟩) L.length c4] 22))).grown hgr8 (by
                cases e : (Value.slice P5 q c5).ownBlock with
                | none => exact .inl rfl
                | some k => exact .inr (fun e2 => by have h1 := (k3 _ e).2; have h2 := (HO7.out.out.lt k e2.symm).1; omega)) (fun y hy e => by have h1 := k3 _ e; have h2 := k4 y hy; omega)
              obtain ⟨v9, W9, hrun9, hO9, hx9⟩ := join_gen (w := w) (Nat.le_refl _) hx8 hO8 hO78 (fun x hx y hy => by
                have h2 := k4 y hy
                rcases List.mem_append.1 hx with h3 | h3
                · have h1 := k2 x h3; omega
                · simp at h3; subst h3; simp only; omega) (fun y hy e => by
                have h2 := k4 y hy
                rcases hb8 with h3 | ⟨k, h3, h4⟩
                · rw [h3] at e; have h1 := k3 _ e; omega
                · rw [h3] at e; injection e with e; omega) (by simp; omega) (by omega) (by have := hx8.size; omega)
              have Hfin : Hid (OwnA W9 w.heap.size v9 (R5 ++ [⟨g, c4, L⟩] ++ R7) ∧ Ext w W9) := Lib.hid ⟨hO9, hx9⟩
              clear k1 k2 k3 k4 k5 k6 k7 k8 k9 hO8 hx8 hgr8 hb8 hO78 hO9 hx9 hgW hT4
              go_wp2_with (first
                | (at_builtin; refine Lib.wpList_append_run _ rfl _ _ _ _ rfl _ _ rfl rfl _ _ hrun8 ?_)
                | (at_builtin; refine Lib.wpList_append_run _ rfl _ _ _ _ rfl _ _ rfl rfl _ _ hrun9 ?_))
              go_ret2
              refine ⟨v9, R5 ++ [⟨g, c4, L⟩] ++ R7, rfl, Hfin.out.1, ?_, Hfin.out.2⟩
              rw [List.map_append, List.map_append, HM5.out, HM7.out, Hrem.out, Htk.out]
              simp
            · obtain ⟨f, hqf⟩ : ∃ f, q = f + 1 := ⟨q - 1, by omega⟩
              obtain ⟨g5, hg5⟩ := hP5 (by omega)
              subst hg5
              obtain ⟨t, htt⟩ : ∃ t, nthR R5 f = t := ⟨_, rfl⟩
              have hfl : f < R5.length := by omega
              have htl : t.l = nthA LL (q - 1) := by
                have h3 := nthA_map R5 f hfl
                rw [HM5.out, htt] at h3
                rw [← h3, show q - 1 = f by omega]
                simp [nthA, List.getD_eq_getElem?_getD, show f < q by omega]
              have htb : (t.l.length : Int) ≤ b := by rw [htl]; exact (hblk _ (nthA_mem (by omega))).2
              have hct : W7.cell? ⟨g5, f, none⟩ = some (.slice (some ⟨t.h, 0, none⟩) t.l.length t.c) := by
                have h2 := Hall.out.1.out
                rw [hq5] at h2
                have h3 := h2.cellAt f (show f < q * 1 by omega)
                rw [h3, ← htt]
                simp [Row.v, nthR, List.getD_eq_getElem?_getD, hfl]
              have y1 : IntKind.i64.wrap ((q : Int) - 1) = (f : Int) := by rw [IntWalk.i64_in _ ⟨by omega, by omega⟩]; omega
              have y2 : (f : Int) < (q : Int) := by omega
              have y3 : IntKind.i64.wrap ((m : Int) + t.l.length) = (m : Int) + t.l.length := IntWalk.i64_in _ ⟨by omega, by omega⟩
              have y4 : ¬ ((m : Int) + t.l.length ≤ b) := fun hh => hP ⟨by omega, by rw [Hm.out, ← htl]; omega⟩
              clear htt hqf htl hfl htb
              clear hq0 hn70 heL hsm hn7e hN hP htk hq5 hP7 hP5
              obtain ⟨k1, k2, k3, k4, k5, k6, k7, k8, k9⟩ := Hall.out
              have hgW : g < W4.heap.size := hT4.inB.lt
              obtain ⟨v8, W8, hrun8, hO8, hx8, hgr8, hb8⟩ := app_one_g (w := w) (W := W7) (r := ⟨g, c4, L⟩) (Nat.le_refl _) (by omega) hxw7 k1 (hT4.ext hx47).inB (fun x hx => by have h1 := k2 x hx; simp only; omega) (fun e => by have h1 := k3 _ e; simp only at h1; omega) (by omega)
              simp only [Hm.out] at hrun8
              have hO78 := (HO7.out.ext ((Ext.refl W7).alloc (.cells #[.slice (some ⟨g, 0, none⟩) L.length c4] 22))).grown hgr8 (by
                cases e : (Value.slice (some ⟨g5, 0, none⟩) q c5).ownBlock with
                | none => exact .inl rfl
                | some k => exact .inr (fun e2 => by have h1 := (k3 _ e).2; have h2 := (HO7.out.out.lt k e2.symm).1; omega)) (fun y hy e => by have h1 := k3 _ e; have h2 := k4 y hy; omega)
              obtain ⟨v9, W9, hrun9, hO9, hx9⟩ := join_gen (w := w) (Nat.le_refl _) hx8 hO8 hO78 (fun x hx y hy => by
                have h2 := k4 y hy
                rcases List.mem_append.1 hx with h3 | h3
                · have h1 := k2 x h3; omega
                · simp at h3; subst h3; simp only; omega) (fun y hy e => by
                have h2 := k4 y hy
                rcases hb8 with h3 | ⟨k, h3, h4⟩
                · rw [h3] at e; have h1 := k3 _ e; omega
                · rw [h3] at e; injection e with e; omega) (by simp; omega) (by omega) (by have := hx8.size; omega)
              have Hfin : Hid (OwnA W9 w.heap.size v9 (R5 ++ [⟨g, c4, L⟩] ++ R7) ∧ Ext w W9) := Lib.hid ⟨hO9, hx9⟩
              clear k1 k2 k3 k4 k5 k6 k7 k8 k9 hO8 hx8 hgr8 hb8 hO78 hO9 hx9 hgW hT4
              go_wp2_with (first
                | (at_builtin; refine Lib.wpList_append_run _ rfl _ _ _ _ rfl _ _ rfl rfl _ _ hrun8 ?_)
                | (at_builtin; refine Lib.wpList_append_run _ rfl _ _ _ _ rfl _ _ rfl rfl _ _ hrun9 ?_))
              go_ret2
              refine ⟨v9, R5 ++ [⟨g, c4, L⟩] ++ R7, rfl, Hfin.out.1, ?_, Hfin.out.2⟩
              rw [List.map_append, List.map_append, HM5.out, HM7.out, Hrem.out, Htk.out]
              simp
end Go.Proofs.Ytiakmcfbkceojaa
