/- Arrays: owned; one block less. -/
import Derived.Test.YtiakmcfbkceojaaArS
import Derived.Test.YtiakmcfbkceojaaDelI
import Derived.Test.YtiakmcfbkceojaaDelJ
namespace Go.Proofs.Ytiakmcfbkceojaa
open Go.RowKit Go.Maps
set_option linter.unusedVariables false
set_option linter.unusedSimpArgs false
set_option maxRecDepth 20000
attribute [local go_sem] Oper.semAt_some

/-- one block put behind, from a new cell; rows stay tight -/
theorem app_one_t {w W : World} {v : Value} {A : List Row} {r : Row} (hx : Ext w W) (h : OwnA W w.heap.size v A) (hr : InB W w.heap.size r) (hne : ∀ x ∈ A, x.h ≠ r.h) (hv : v.ownBlock ≠ some r.h) (hn : A.length ≤ 10000) :
    ∃ v' W', (Builtin.append_ #[24, 24] 24 #[v, .slice (some ⟨W.heap.size, 0, none⟩) 1 1]).run Try.prog (W.alloc (.cells #[.slice (some ⟨r.h, 0, none⟩) r.l.length r.c] 22)) = .ok v' W' ∧ OwnA W' w.heap.size v' (A ++ [r]) ∧ Ext w W' ∧ (∀ b x, TightB W b x → v.ownBlock ≠ some x.h → TightB W' b x) := by
  have hx1 : Ext W (W.alloc (.cells #[.slice (some ⟨r.h, 0, none⟩) r.l.length r.c] 22)) := (Ext.refl W).alloc _
  have ho := h.ext hx1
  have hblk := ho.out.lt
  obtain ⟨v', w', h1, h2, h3, h4⟩ := ho.app (B := [r]) W.heap.size 0 1 (fun j u hj => by
    have hjl := (List.getElem?_eq_some_iff.1 hj).1
    obtain rfl : j = 0 := by simpa using hjl
    simp only [List.map_cons, List.map_nil, List.getElem?_cons_zero, Option.some.injEq] at hj
    subst hj
    exact one_at (World.alloc_heap_new W _)) (fun x hx' => by simp at hx'; subst hx'; exact hr.same (hx1.block hr.lt)) (by simp) (fun x hx' y hy => by simp at hy; subst hy; exact hne x hx') (fun y hy => by simp at hy; subst hy; exact hv) (by simp; omega) (hx.trans hx1).size
  exact ⟨v', w', h1, h2, Below.grown (hx.trans hx1) h3 (hx.trans hx1).size (fun j hj => (hblk j hj).1), fun b x hT hne => (hT.ext hx1).grown h3 hne⟩
/-- how owned ends -/
def OwdPost (LL : List (List Int)) (w : World) (e : Ending) (w' : World) : Prop := ∃ v RR, e = .returned v ∧ OwnA w' w.heap.size v RR ∧ (∀ r ∈ RR, TightB w' w.heap.size r) ∧ RR.map Row.l = LL ∧ Ext w w'
/-- the first blocks are copied, and tight -/
def OwdR (LL : List (List Int)) (w : World) (i v : Value) (wr : World) : Prop :=
  ∃ (k : Nat) (RR : List Row), k ≤ LL.length ∧ i = .int .i64 k ∧ OwnA wr w.heap.size v RR ∧ Hid (∀ r ∈ RR, TightB wr w.heap.size r) ∧ RR.map Row.l = LL.take k ∧ Ext w wr
theorem owned_any (P : Option Addr) (cap : Nat) (Q : Nat → Option Addr) (C : Nat → Nat) (LL : List (List Int)) (w : World) (h : SlA w P cap Q C LL) (hne : ∀ l ∈ LL, l ≠ []) (ht : LL.flatten.length ≤ 1000) :
    Calls Try.prog 57 #[.slice P LL.length cap] w (OwdPost LL w) := by
  have hlen := h.len
  have hll := len_le_flat LL hne
  go_enter Try.func57, Try.ntmps57
  go_wp2
  go_loopw [8, 3, 5] (fun i v _ wr => OwdR LL w i v wr) (fun i _ _ _ => LL.length - (intOf i).toNat)
  case atStart => exact ⟨0, [], by omega, rfl, OwnA.nil _ _, Lib.hid (fun r hr => by cases hr), rfl, Ext.refl w⟩
  case round =>
    obtain ⟨k, RR, hk, rfl, hO, hTs, hRR, hx⟩ := hrel
    by_cases hlt : k < LL.length
    · obtain ⟨bb, off, hP, hc⟩ := h.at_ k hlt
      subst hP
      replace hc := hx.cell hc
      have hl := hne _ (nthA_mem hlt)
      have hrow := (h.row k hlt).ext hx
      have Hk := Lib.hid (nthA_take hlt)
      have hsz : (nthA LL k).length ≤ 1000 := by
        have h1 := lenT_le LL (k + 1)
        rw [lenT_succ hlt] at h1
        omega
      have HRR := Lib.hid hRR
      have hRl : RR.length = k := by
        have := congrArg List.length hRR
        rw [List.length_map, List.length_take] at this
        omega
      have hcl := clone_any (Q k) (C k) (nthA LL k) wr hrow hl hsz
      have hap := fun g c w2 (hT : TightB w2 wr.heap.size ⟨g, c, nthA LL k⟩) (hx2 : Ext wr w2) => app_one_t (w := w) (r := ⟨g, c, nthA LL k⟩) (hx.trans hx2) (hO.ext hx2) (hT.inB.down hx.size) (fun x hx' => by have h1 := hO.lt hx'; have h2 := hT.inB.1; simp only at h2 ⊢; omega) (fun e => by have h1 := (hO.out.lt _ e).2; have h2 := hT.inB.1; simp only at h1 h2; omega) (by omega)
      have c1 : (k : Int) < LL.length := by omega
      have HO := Lib.hid hO
      clear hO hRR hRl hrow
      go_wp2_with (first
        | (go_at_call 52; refine hcl.mono ?_; rintro e w2 ⟨g, c, rfl, hT, hx2⟩; obtain ⟨v6, W6, hrun6, hO6, hx6, ht6⟩ := hap g c w2 hT hx2; simp only at hrun6)
        | (at_builtin; refine Lib.wpList_append_run _ rfl _ _ _ _ rfl _ _ rfl rfl _ _ hrun6 ?_))
      have hO := HO.out
      have hT6 : Hid (∀ r ∈ RR ++ [⟨g, c, nthA LL k⟩], TightB W6 w.heap.size r) := Lib.hid fun r hr => by
        rcases List.mem_append.1 hr with hr | hr
        · exact ht6 _ _ ((hTs.out r hr).ext hx2) (fun e => hO.far r hr e)
        · simp at hr
          subst hr
          refine ht6 _ _ (hT.down hx.size) (fun e => ?_)
          have h1 := (hO.out.lt _ e).2
          have h2 := hT.inB.1
          simp only at h1 h2
          omega
      go_roundw
      case rel => exact ⟨k + 1, _, by omega, by go_num, hO6, hT6, by rw [List.map_append, HRR.out, Hk.out]; rfl, hx6⟩
      case measure => simp [intOf]; omega
    · obtain rfl : k = LL.length := by omega
      rw [List.take_length] at hRR
      go_wp2
      go_ret
      exact ⟨_, RR, rfl, hO, hTs.out, hRR, hx⟩
section
variable {w w' : World} {base : Nat}
/-- one block is left out -/
theorem OwnA.del {g cap n : Nat} {A B : List Row} {r : Row} (h : OwnA w base (.slice (some ⟨g, 0, none⟩) n cap) (A ++ r :: B)) (hu : Upd w g w') (ho : w'.ownsRow base 22 1 (.slice (some ⟨g, 0, none⟩) (n - 1) cap) (n - 1) ((A ++ B).map Row.v)) (hn : n = (A ++ r :: B).length) : OwnA w' base (.slice (some ⟨g, 0, none⟩) (n - 1) cap) (A ++ B) := by
  have hin : ∀ x ∈ A ++ B, x ∈ A ++ r :: B := fun x hx => by
    rcases List.mem_append.1 hx with hx | hx
    · simp [hx]
    · simp [hx]
  have hl : (A ++ B).length = n - 1 := by rw [hn]; simp
  have hap := h.apart
  rw [List.map_append, List.map_cons, List.nodup_append, List.nodup_cons] at hap
  obtain ⟨hA, ⟨hrB, hB⟩, hAB⟩ := hap
  refine ⟨by rw [hl]; exact ho, fun x hx => ?_, ?_, fun x hx => h.far x (hin x hx)⟩
  · exact (h.row x (hin x hx)).same (hu.block _ (h.lt (hin x hx)) (fun e => h.far x (hin x hx) (by simp only [Value.ownBlock]; exact e.symm)))
  · rw [List.map_append, List.nodup_append]
    exact ⟨hA, hB, fun x hx y hy => hAB x hx y (by simp [hy])⟩
end
end Go.Proofs.Ytiakmcfbkceojaa
