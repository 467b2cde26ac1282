/- Rings: a member put in, taken out, by the program. -/
import Derived.Test.YthmcdlieglollaaChC2
namespace Go.Proofs.Ythmcdlieglollaa
open Go.RowKit Go.Sort Go.Maps
set_option linter.unusedVariables false
set_option linter.unusedSimpArgs false
set_option linter.unusedSectionVars false
set_option maxRecDepth 20000
attribute [local go_sem] Oper.semAt_some

theorem OwnG.notAt {α : Type} {cs : α → List Value} {e : TypeId} {k : Nat} {w : World} {base : Nat} {v : Value} {l : List α} (h : OwnG cs e k w base v l) (n : Nat) (hn : n < base ∨ w.heap.size ≤ n) : v.ownBlock ≠ some n := fun e => by
  have := World.ownsRow.lt h n e
  omega
theorem ext_grown {a b c : World} {v : Value} {base : Nat} (h : Ext a b) (k : b.grownBy c v.ownBlock) (hv : ∀ g, v.ownBlock = some g → base ≤ g) (hb : a.heap.size ≤ base) : Ext a c :=
  Below.grown h k h.size (fun g hg => by have := hv g hg; omega)
theorem deleteFunc_res {w0 W : World} {v : Value} (l : List Int) (k : Int) (c : Nat) (h : OwnI W w0.heap.size v l) (hn : l.length ≤ 1000) (hd : l.Nodup) (hc : W.cell? ⟨c, 0, none⟩ = some (.int .i64 k)) (hcb : c < w0.heap.size) (hx : Ext w0 W) :
    Calls Try.prog 82 #[v, .func (.func 83) #[] #[.pointer (some ⟨c, 0, none⟩)]] W fun e w' => (∃ Q d, e = .returned (.slice Q (remF l k).length d) ∧ SlI w' Q d (remF l k) ∧ (Q = none → d = 0)) ∧ Ext w0 w' :=
  (deleteFunc_any v l k c w0.heap.size W h hn hd hc (h.notAt c (.inl hcb))).mono fun e w' ⟨⟨v', he, ho, hv⟩, hg⟩ => by
    obtain ⟨Q, d, e2, h2, q2⟩ := ho.res elemI (by have := List.length_filter_le (fun x => decide (x ≠ k)) l; unfold remF; omega)
    exact ⟨⟨Q, d, by rw [he, e2], h2, q2⟩, ext_grown hx hg h.base_ (Nat.le_refl _)⟩
theorem insert_res {w0 W : World} {v : Value} {vb : Nat} (l : List Int) (k : Int) (i : Nat) (h : OwnI W w0.heap.size v l) (hv : W.heap[vb]? = some (.cells #[.int .i64 k] 3 (0, 0))) (hne : v.ownBlock ≠ some vb) (hx : Ext w0 W) (hn : l.length ≤ 1000) (hi : i ≤ l.length) :
    Calls Try.prog 81 #[v, .int .i64 i, .slice (some ⟨vb, 0, none⟩) 1 1] W fun e w' => (∃ Q d, e = .returned (.slice Q (l.length + 1) d) ∧ SlI w' Q d (l.take i ++ k :: l.drop i) ∧ (Q = none → d = 0)) ∧ Ext w0 w' := by
  have hr : W.ownsRow w0.heap.size 3 1 v (l.map (Value.int .i64)).length (l.map (Value.int .i64)) := by
    have h2 : W.ownsRow w0.heap.size 3 1 v l.length (l.flatMap fun x => [Value.int .i64 x]) := h
    rw [flat_ints] at h2
    rw [List.length_map]
    exact h2
  have := insertI (l.map (Value.int .i64)) v w0.heap.size i (.int .i64 k) vb W (by rw [List.length_map]; omega) (fun u hu => by obtain ⟨x, _, rfl⟩ := List.mem_map.1 hu; rfl) rfl (by rw [List.length_map]; exact hi) hx.size hr hv hne
  refine this.mono fun e w' ⟨v', he, ho, hg, _⟩ => ?_
  have hl : (l.take i ++ k :: l.drop i).length = l.length + 1 := by
    rw [List.length_append, List.length_cons, List.length_take, List.length_drop]
    omega
  have ho' : OwnI w' w0.heap.size v' (l.take i ++ k :: l.drop i) := by
    show w'.ownsRow w0.heap.size 3 1 v' (l.take i ++ k :: l.drop i).length ((l.take i ++ k :: l.drop i).flatMap fun x => [Value.int .i64 x])
    rw [flat_ints, hl, List.map_append, List.map_cons, List.map_take, List.map_drop]
    rw [List.length_map] at ho
    exact ho
  obtain ⟨Q, d, e2, h2, q2⟩ := ho'.res elemI (by rw [hl]; omega)
  rw [hl] at e2
  exact ⟨⟨Q, d, by rw [he, e2], h2, q2⟩, ext_grown hx hg h.base_ (Nat.le_refl _)⟩
theorem made_res {W : World} {P : Option Addr} {cap : Nat} (o : Int) (ms : List Int) (h : SlI W P cap ms) (hP : P = none → cap = 0) (hr : Right (o :: ms)) :
    Calls Try.prog 53 #[.int .i64 o, .slice P ms.length cap] W fun e w' => (∃ v, e = .returned v ∧ ResL w' v (builtF o ms)) ∧ Ext W w' :=
  (made_any P cap o ms W h hP hr).mono fun e w' ⟨⟨v, he, ho⟩, hx⟩ => ⟨⟨v, he, ho.res elemL (by rw [built_len]; have := hr.le; simp at this; omega)⟩, hx⟩
theorem listed_own {w0 W : World} (P : Option Addr) (cap : Nat) (l : List Lk) (o : Int) (ms : List Int) (hlb : l = builtF o ms) (hr : Right (o :: ms)) (h : SlL W P cap l) (hx : Ext w0 W) :
    Calls Try.prog 54 #[.slice P l.length cap] W fun e w' => (∃ v, e = .returned v ∧ OwnI w' w0.heap.size v ms) ∧ Ext W w' :=
  (listed_any P cap l o ms hlb hr W h).mono fun e w' ⟨⟨v, he, ho⟩, hx'⟩ => ⟨⟨v, he, ho.down hx.size⟩, hx'⟩
set_option maxHeartbeats 4000000 in
theorem without_any (P : Option Addr) (cap : Nat) (l : List Lk) (o : Int) (ms : List Int) (k : Int) (hlb : l = builtF o ms) (hr : Right (o :: ms)) {w : World} (h : SlL w P cap l) :
    Calls Try.prog 68 #[.slice P l.length cap, .int .i64 k] w fun e w' => (∃ v, e = .returned v ∧ ResL w' v (builtF o (remF ms k))) ∧ Ext w w' := by
  have hle := hr.le
  simp only [List.length_cons] at hle
  have hnd := hr.nodup
  rw [List.nodup_cons] at hnd
  have hlen : l.length = ms.length + 1 := by rw [hlb]; exact built_len o ms
  obtain ⟨b, off, hP, g3⟩ := own_cell h (by omega)
  rw [show own l = o from by rw [hlb]; exact built_own o ms] at g3
  subst hP
  have c0 : (0 : Int) < l.length := by omega
  have c0n : 0 < l.length := by omega
  have hx1 : Ext w (w.alloc (.cells #[.int .i64 k] 3)) := (Ext.refl w).alloc _
  have gc : (w.alloc (.cells #[.int .i64 k] 3)).cell? ⟨w.heap.size, 0, none⟩ = some (.int .i64 k) := (World.cell?_alloc_mark _ _ _ _ 0).trans rfl
  have hcb : w.heap.size < (w.alloc (.cells #[.int .i64 k] 3)).heap.size := by simp
  have hLo := fun {W} hs hx => listed_own (w0 := w.alloc (.cells #[.int .i64 k] 3)) (W := W) (some ⟨b, off, none⟩) cap l o ms hlb hr hs hx
  have hDF := fun {W v} ho hc hx => deleteFunc_res (w0 := w.alloc (.cells #[.int .i64 k] 3)) (W := W) (v := v) ms k w.heap.size ho (by omega) hnd.2 hc hcb hx
  have hMd := fun {W Q c} hs hq => made_res (W := W) (P := Q) (cap := c) o (remF ms k) hs hq (right_rem k hr)
  have s1 := h.ext hx1
  have g3 := hx1.cell g3
  generalize remF ms k = rm at *
  clear hlb hr hnd hle hlen
  go_enter Try.func68, Try.ntmps68
  go_wp2
  generalize w.alloc (.cells #[.int .i64 k] 3) = w1 at *
  generalize w.heap.size = c at *
  go_region_held3 (fun w' => w'.cell? ⟨b, off + 3, none⟩ = some (.int .i64 o) ∧ w'.cell? ⟨c, 0, none⟩ = some (.int .i64 k)) (first | go_keep | (refine ⟨Ext.cell ?_ g3, Ext.cell ?_ gc⟩ <;> (repeat (first | exact Ext.refl _ | assumption | refine Ext.trans ?_ hx5 | refine Ext.trans ?_ hx7 | refine Ext.drew ?_ | refine Ext.alloc ?_ _ | refine Ext.drewN ?_ _))))
    (first
      | (go_at_call 54; refine (hLo (s1.ext ?_) ?_).mono ?_
         · (repeat (first | exact Ext.refl _ | assumption | refine Ext.drew ?_ | refine Ext.alloc ?_ _ | refine Ext.drewN ?_ _))
         · (repeat (first | exact Ext.refl _ | assumption | refine Ext.drew ?_ | refine Ext.alloc ?_ _ | refine Ext.drewN ?_ _))
         rintro e w5 ⟨⟨v5, rfl, ho5⟩, hx5⟩)
      | (go_at_call 82; refine (hDF (ho5.ext ?_) (Ext.cell ?_ gc) ?_).mono ?_
         · (repeat (first | exact Ext.refl _ | assumption | refine Ext.drew ?_ | refine Ext.alloc ?_ _ | refine Ext.drewN ?_ _))
         · (repeat (first | exact Ext.refl _ | assumption | refine Ext.trans ?_ hx5 | refine Ext.trans ?_ hx7 | refine Ext.drew ?_ | refine Ext.alloc ?_ _ | refine Ext.drewN ?_ _))
         · (repeat (first | exact Ext.refl _ | assumption | refine Ext.trans ?_ hx5 | refine Ext.trans ?_ hx7 | refine Ext.drew ?_ | refine Ext.alloc ?_ _ | refine Ext.drewN ?_ _))
         rintro e w6 ⟨⟨P6, c6, rfl, t6, q6⟩, hx6⟩)
      | (go_at_call 53; refine (hMd (t6.ext ?_) q6).mono ?_
         · (repeat (first | exact Ext.refl _ | assumption | refine Ext.drew ?_ | refine Ext.alloc ?_ _ | refine Ext.drewN ?_ _))
         rintro e w7 ⟨⟨v7, rfl, ho7⟩, hx7⟩)
      | fail)
  all_goals
    go_wp2
    go_ret
    refine ⟨⟨_, rfl, ho7⟩, hx1.trans ?_⟩
    (repeat (first | exact Ext.refl _ | assumption | refine Ext.trans ?_ hx5 | refine Ext.trans ?_ hx7 | refine Ext.drew ?_ | refine Ext.alloc ?_ _ | refine Ext.drewN ?_ _))
theorem insF_at (ms : List Int) (a k : Int) : ∃ i : Nat, i ≤ ms.length ∧ idxI ms a + 1 = i ∧ insF ms a k = ms.take i ++ k :: ms.drop i := by
  have h1 := idxI_ge ms a
  exact ⟨(idxI ms a + 1).toNat, by omega, by omega, rfl⟩
set_option maxHeartbeats 4000000 in
theorem put_any (P : Option Addr) (cap : Nat) (l : List Lk) (o : Int) (ms : List Int) (a k : Int) (hlb : l = builtF o ms) (hr : Right (o :: ms)) (hr2 : Right (o :: insF ms a k)) {w : World} (h : SlL w P cap l) :
    Calls Try.prog 65 #[.slice P l.length cap, .int .i64 a, .int .i64 k] w fun e w' => (∃ v, e = .returned v ∧ ResL w' v (builtF o (insF ms a k))) ∧ Ext w w' := by
  have hle := hr.le
  simp only [List.length_cons] at hle
  have hlen : l.length = ms.length + 1 := by rw [hlb]; exact built_len o ms
  obtain ⟨b, off, hP, g3⟩ := own_cell h (by omega)
  rw [show own l = o from by rw [hlb]; exact built_own o ms] at g3
  subst hP
  have c0 : (0 : Int) < l.length := by omega
  have c0n : 0 < l.length := by omega
  have hLo := listed_own (w0 := w) (W := w) (some ⟨b, off, none⟩) cap l o ms hlb hr h (Ext.refl w)
  have hIx := fun {W Q c} hs => index_any Q c ms a W hs
  have hl2 := insF_len ms a k
  obtain ⟨i, hi, hz, hins⟩ := insF_at ms a k
  have HM := Lib.hid (show ms.length ≤ 500 from by omega)
  have hIn := fun {w0 W v vb} ho hv hne hx => insert_res (w0 := w0) (W := W) (v := v) (vb := vb) ms k i ho hv hne hx (by omega) hi
  rw [← hins] at hIn
  have hMd := fun {W Q c} hs hq => made_res (W := W) (P := Q) (cap := c) o (insF ms a k) hs hq hr2
  rw [hl2] at hMd
  have hi5 : i ≤ 500 := by omega
  have hz1 : idxI ms a = (i : Int) - 1 := by omega
  rw [hz1] at hIx
  have hq : (i : Int) - 1 + 1 = i := by omega
  have d1 : IntKind.i64.wrap ((i : Int) - 1 + 1) = (i : Int) := by rw [hq]; exact IntWalk.i64_in _ ⟨by omega, by omega⟩
  have d2 : IntKind.i64.wrap (i : Int) = (i : Int) := IntWalk.i64_in _ ⟨by omega, by omega⟩
  have HI := Lib.hid hi
  generalize insF ms a k = rm at *
  clear hq hlb hr hle hlen hr2 hz1 hz hins hl2 hi
  go_enter Try.func65, Try.ntmps65
  go_wp2_with (go_at_call 54; refine hLo.mono ?_; rintro e w1 ⟨⟨v1, rfl, ho1⟩, hx1⟩; obtain ⟨P1, c1, rfl, t1, q1⟩ := ho1.res elemI (by have := HM.out; omega))
  have gw := g3
  have g3 := hx1.cell gw
  have hne1 := ho1.notAt w1.heap.size (.inr (Nat.le_refl _))
  have hin1 := fun {W vb} ho hv hne hx => hIn (w0 := w) (W := W) (v := .slice P1 ms.length c1) (vb := vb) ho hv hne hx
  go_region_held3 (fun w' => w'.cell? ⟨b, off + 3, none⟩ = some (.int .i64 o)) (first | go_keep | (refine Ext.cell ?_ gw; (repeat (first | exact Ext.refl _ | assumption | refine Ext.trans ?_ hx7 | refine Ext.drew ?_ | refine Ext.alloc ?_ _ | refine Ext.drewN ?_ _))))
    (first
      | (go_at_call 63; refine (hIx (t1.ext ?_)).mono ?_
         · (repeat (first | exact Ext.refl _ | assumption | refine Ext.drew ?_ | refine Ext.alloc ?_ _ | refine Ext.drewN ?_ _))
         rintro e w5 ⟨rfl, rfl⟩)
      | (go_at_call 81; refine (hin1 (ho1.ext ?_) ?_ ?_ ?_).mono ?_
         · (repeat (first | exact Ext.refl _ | assumption | refine Ext.drew ?_ | refine Ext.alloc ?_ _ | refine Ext.drewN ?_ _))
         · first | (refine alloc_at _ _ _ ?_; (simp; done)) | (refine ((Ext.refl _).alloc _).heap (alloc_at _ _ _ ?_); (simp; done))
         · exact hne1
         · (repeat (first | exact Ext.refl _ | assumption | refine Ext.trans ?_ hx7 | refine Ext.drew ?_ | refine Ext.alloc ?_ _ | refine Ext.drewN ?_ _))
         rintro e w6 ⟨⟨P6, c6, rfl, t6, q6⟩, hx6⟩)
      | (go_at_call 53; refine (hMd (t6.ext ?_) q6).mono ?_
         · (repeat (first | exact Ext.refl _ | assumption | refine Ext.drew ?_ | refine Ext.alloc ?_ _ | refine Ext.drewN ?_ _))
         rintro e w7 ⟨⟨v7, rfl, ho7⟩, hx7⟩)
      | fail)
  all_goals
    go_wp2
    go_ret
    refine ⟨⟨_, rfl, ho7⟩, ?_⟩
    (repeat (first | exact Ext.refl _ | assumption | refine Ext.trans ?_ hx7 | refine Ext.drew ?_ | refine Ext.alloc ?_ _ | refine Ext.drewN ?_ _))
end Go.Proofs.Ythmcdlieglollaa
