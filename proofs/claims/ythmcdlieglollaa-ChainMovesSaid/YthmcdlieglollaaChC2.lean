/- Rings: slices.DeleteFunc of one number, in place. -/
import Derived.Test.YthmcdlieglollaaChC1
import Derived.Test.YthmcdlieglollaaChX3
import Derived.Test.YthmcdlieglollaaInsI
namespace Go.Proofs.Ythmcdlieglollaa
open Go.RowKit Go.Sort Go.Maps
set_option linter.unusedVariables false
set_option linter.unusedSimpArgs false
set_option linter.unusedSectionVars false
set_option maxRecDepth 20000
attribute [local go_sem] Oper.semAt_some

theorem isk_any (x k : Int) (c : Nat) (w : World) (hc : w.cell? ⟨c, 0, none⟩ = some (.int .i64 k)) :
    Calls Try.prog 83 #[.int .i64 x, .pointer (some ⟨c, 0, none⟩)] w fun e w' => e = .returned (.bool (x == k)) ∧ w' = w := by
  go_enter Try.func83, Try.ntmps83
  go_wp2
  go_ret
  exact ⟨rfl, by trivial⟩
theorem indexFunc_any (P : Option Addr) (cap : Nat) (l : List Int) (k : Int) (c : Nat) (w : World) (h : SlI w P cap l) (hc : w.cell? ⟨c, 0, none⟩ = some (.int .i64 k)) :
    Calls Try.prog 90 #[.slice P l.length cap, .func (.func 83) #[] #[.pointer (some ⟨c, 0, none⟩)]] w fun e w' => e = .returned (.int .i64 (idxI l k)) ∧ w' = w := by
  have hlen := h.len
  go_enter Try.func90, Try.ntmps90
  go_wp2
  go_loopw [8] (fun i wr => ∃ q : Nat, q ≤ l.length ∧ i = .int .i64 q ∧ (∀ j : Nat, j < q → nthI l j ≠ k) ∧ wr = w) (fun i _ => l.length - (intOf i).toNat)
  case atStart => exact ⟨0, by omega, rfl, by intro j hj; omega, rfl⟩
  case round =>
    obtain ⟨q, hk, rfl, hall, rfl⟩ := hrel
    by_cases hlt : q < l.length
    · obtain ⟨b, off, hP, g0⟩ := h.intAt q hlt
      rw [show l.getD q 0 = nthI l q from rfl] at g0
      subst hP
      have c1 : (q : Int) < l.length := by omega
      have d1 : IntKind.i64.wrap ((q : Int) + 1) = (q : Int) + 1 := IntWalk.i64_in _ ⟨by omega, by omega⟩
      have hI := isk_any (nthI l q) k c _ hc
      by_cases he : nthI l q = k
      · have Hn : Hid (idxI l k = q) := Lib.hid (idxI_at _ _ q hlt hall he)
        rw [show (nthI l q == k) = true from by simpa using he] at hI
        generalize nthI l q = x at *
        clear hall he
        go_wp2_with (go_at_call 83; refine hI.mono ?_; rintro e w1 ⟨rfl, rfl⟩)
        go_ret
        exact ⟨by rw [Hn.out]; rfl, by trivial⟩
      · have Hy : Hid (∀ j : Nat, j < q + 1 → nthI l j ≠ k) := Lib.hid (fun j hj => by
          by_cases hjk : j = q
          · subst hjk; exact he
          · exact hall j (by omega))
        rw [show (nthI l q == k) = false from by simpa using he] at hI
        generalize nthI l q = x at *
        clear hall he
        go_wp2_with (go_at_call 83; refine hI.mono ?_; rintro e w1 ⟨rfl, rfl⟩)
        go_roundw
        case rel => exact ⟨q + 1, by omega, by go_num, Hy.out, by trivial⟩
        case measure => simp [intOf]; omega
    · obtain rfl : q = l.length := by omega
      have Hn : Hid (idxI l k = -1) := Lib.hid (idxI_no _ _ hall)
      clear hall
      go_wp2
      go_ret
      exact ⟨by rw [Hn.out]; rfl, by trivial⟩
theorem clear1 (g o c : Nat) (w : World) (x : Value) (h1 : w.cell? ⟨g, o, none⟩ = some x) (f1 : w.frozen? ⟨g, o, none⟩ = false) :
    (Builtin.clear_ #[22] 0 #[.slice (some ⟨g, o, none⟩) 1 c]).run Try.prog w = .ok (.tuple #[]) (w.setCell ⟨g, o, none⟩ (.int .i64 0)) := by
  unfold Builtin.clear_
  go_simp
  have e : (Builtin.zeroCells #[.int .i64 0] 1).toList = [.int .i64 0] := by simp [Builtin.zeroCells, Array.range]
  rw [e]
  go_simp
/-- the head of a list of the call's own -/
theorem OwnG.head {α : Type} {cs : α → List Value} {e : TypeId} {k : Nat} (hk : ∀ x, (cs x).length = k) {w : World} {base g n cap : Nat} {l : List α} (h : OwnG cs e k w base (.slice (some ⟨g, 0, none⟩) n cap) l) (hn : n = l.length) (i : Nat) (hi : i ≤ n) :
    OwnG cs e k w base (.slice (some ⟨g, 0, none⟩) i cap) (l.take i) := by
  subst hn
  unfold OwnG at h ⊢
  have hl : (l.take i).length = i := by rw [List.length_take]; omega
  rw [hl]
  have htk : ∀ (l : List α) (i : Nat), (l.take i).flatMap cs = (l.flatMap cs).take (i * k) := by
    intro l
    induction l with
    | nil => intro i; simp
    | cons x l ih =>
      intro i
      cases i with
      | zero => simp
      | succ i =>
        rw [List.take_succ_cons, List.flatMap_cons, List.flatMap_cons, ih, List.take_append, hk, List.take_of_length_le (l := cs x) (by rw [hk, Nat.add_mul]; omega), show (i + 1) * k - k = i * k from by rw [Nat.add_mul]; omega]
  have hik : i * k ≤ l.length * k := Nat.mul_le_mul_right k hi
  refine ⟨by rw [htk, List.length_take, h.1]; omega, ?_⟩
  rcases h.2 with ⟨h', _⟩ | ⟨g', cap', cur, h', hb, hg, hnc, hcm, hcs, htake⟩
  · simp at h'
  · simp only [Value.slice.injEq, Option.some.injEq, Addr.mk.injEq, and_true, true_and] at h'
    obtain ⟨rfl, rfl⟩ := h'
    refine .inr ⟨g, cap, cur, rfl, hb, hg, by omega, hcm, hcs, ?_⟩
    rw [htk, ← htake, List.take_take]
    congr 1
    omega
theorem remF_at {A B : List Int} {k : Int} (ha : k ∉ A) (hb : k ∉ B) (M : List Int) (hM : M.length = (A ++ k :: B).length) (h : ∀ q, q < (A ++ B).length → nthI M q = nthI (A ++ B) q) : M.take (A ++ B).length = remF (A ++ k :: B) k := by
  rw [remF_app A B k ha hb]
  simp only [List.length_append, List.length_cons] at hM h
  apply ext_nthI
  · rw [List.length_take]; simp; omega
  · intro i hi
    have hi2 : i < A.length + B.length := by rw [List.length_take] at hi; simp at hi; omega
    have : nthI (M.take (A ++ B).length) i = nthI M i := by
      unfold nthI
      rw [List.getD_eq_getElem?_getD, List.getD_eq_getElem?_getD, List.getElem?_take, if_pos (by simp; omega)]
    rw [this]
    exact h i hi2
set_option maxHeartbeats 4000000 in
theorem deleteFunc_any (v : Value) (l : List Int) (k : Int) (c base : Nat) (w : World) (h : OwnI w base v l) (hn : l.length ≤ 1000) (hd : l.Nodup) (hc : w.cell? ⟨c, 0, none⟩ = some (.int .i64 k)) (hne : v.ownBlock ≠ some c) :
    Calls Try.prog 82 #[v, .func (.func 83) #[] #[.pointer (some ⟨c, 0, none⟩)]] w fun e w' => (∃ v', e = .returned v' ∧ OwnI w' base v' (remF l k) ∧ v'.ownBlock = v.ownBlock) ∧ w.grownBy w' v.ownBlock := by
  by_cases hm : k ∈ l
  · obtain ⟨A, B, rfl⟩ := List.append_of_mem hm
    rw [List.nodup_append] at hd
    have hA : k ∉ A := fun hx => hd.2.2 k hx k (List.mem_cons_self ..) rfl
    have hB : k ∉ B := (List.nodup_cons.1 hd.2.1).1
    have hix : idxI (A ++ k :: B) k = A.length := idxI_at _ _ A.length (by simp) (fun j hj e => hA (by rw [← e, nthI_app_l hj]; exact nthI_mem hj)) (by rw [nthI_app_r (Nat.le_refl _), Nat.sub_self]; rfl)
    obtain ⟨g, cap, rfl, hg, hgl, hcl, hcm⟩ := h.tight (by simp; omega)
    have hgc : g ≠ c := fun e => hne (by rw [e]; rfl)
    have hlen : (A ++ k :: B).length = A.length + B.length + 1 := by simp; omega
    have hF := indexFunc_any (some ⟨g, 0, none⟩) cap (A ++ k :: B) k c w (by
      obtain ⟨P, c', e, hs⟩ := h.slG elemI (by omega)
      injection e with e1 _ e3
      subst e1 e3
      exact hs) hc
    rw [hix] at hF
    have Hat := Lib.hid (fun q => @nthI_app_l A (k :: B) q)
    have Hnk := Lib.hid (show ∀ j, A.length + 1 ≤ j → j < A.length + B.length + 1 → nthI (A ++ k :: B) j ≠ k from fun j h1 h2 e => hB (by
      rw [← e, nthI_app_r (by omega), show j - A.length = (j - A.length - 1) + 1 from by omega]
      exact nthI_mem (l := B) (i := j - A.length - 1) (by omega)))
    have Hsh := Lib.hid (show ∀ q, A.length ≤ q → nthI (A ++ B) q = nthI (A ++ k :: B) (q + 1) from fun q h1 => by
      rw [nthI_app_r h1, nthI_app_r (by omega), show q + 1 - A.length = (q - A.length) + 1 from by omega]
      rfl)
    have Hlo := Lib.hid (show ∀ q, q < A.length → nthI (A ++ B) q = nthI (A ++ k :: B) q from fun q h1 => by rw [nthI_app_l h1, nthI_app_l h1])
    have Hend := Lib.hid (fun M h1 h2 => @remF_at A B k hA hB M h1 h2)
    have Hel := Lib.hid (show (A ++ B).length = A.length + B.length from by simp)
    have Hln := Lib.hid hlen
    rw [hlen] at hF hcl hn
    generalize A.length + B.length + 1 = n at *
    have hX := Lib.hid h
    have hnp : A.length + 1 ≤ n := by
      have := Hln.out
      have h2 := Hel.out
      simp at this
      omega
    have HnB := Lib.hid (show n = A.length + B.length + 1 from by have := Hln.out; simp at this; omega)
    rw [show (Value.slice (some ⟨g, 0, none⟩) (A ++ k :: B).length cap) = Value.slice (some ⟨g, 0, none⟩) n cap from by rw [Hln.out]]
    generalize A ++ k :: B = l at *
    generalize A ++ B = r at *
    clear hix hlen hA hB hd hm h
    generalize hp : A.length = p at *
    have hne1 : ((p : Int) == -1) = false := beq_eq_false_iff_ne.2 (by omega)
    have e0 : IntKind.i64.wrap ((p : Int) + 1) = (p : Int) + 1 := IntWalk.i64_in _ ⟨by omega, by omega⟩
    go_enter Try.func82, Try.ntmps82
    go_wp2_with (go_at_call 90; refine hF.mono ?_; rintro e w1 ⟨rfl, rfl⟩)
    go_loopw [5, 6] (fun i j wr => ∃ (q : Nat) (M : List Int), p ≤ q ∧ q + 1 ≤ n ∧ i = .int .i64 q ∧ j = .int .i64 (q + 1 : Nat) ∧ M.length = n ∧ (∀ t, t < q → nthI M t = nthI r t) ∧ (∀ t, q < t → nthI M t = nthI l t) ∧ OwnI wr base (.slice (some ⟨g, 0, none⟩) n cap) M ∧ Upd w1 g wr) (fun _ j _ => n - (intOf j).toNat)
    case atStart => exact ⟨p, l, Nat.le_refl _, hnp, rfl, by go_num, Hln.out, fun t ht => by rw [Hlo.out t ht], fun t _ => rfl, by have := hX.out; rw [Hln.out] at this; exact this, Upd.refl _ _⟩
    case round =>
      obtain ⟨q, M, h1, h2, rfl, rfl, hML, hlo, hhi, hown, hup⟩ := hrel
      by_cases hlt : q + 1 < n
      · have hc' := hup.cell hc (show c ≠ g from fun e => hgc e.symm)
        have hMq : M[q + 1]? = some (nthI l (q + 1)) := by rw [nthI_some (l := M) (by omega), hhi (q + 1) (by omega)]
        have k1 := hown.cell1 elemI.hk hML.symm (q + 1) _ _ hMq rfl
        have k0 := hown.cell1 elemI.hk hML.symm q _ _ (nthI_some (l := M) (show q < M.length by omega)) rfl
        have kf := hown.frozen hML.symm q
        have kset := hown.set1 elemI.hk hML.symm q (nthI M q) (nthI l (q + 1)) _ (nthI_some (by omega)) rfl
        have hI := isk_any (nthI l (q + 1)) k c wr hc'
        rw [show (nthI l (q + 1) == k) = false from by simpa using Hnk.out (q + 1) (by omega) (by have := HnB.out; omega)] at hI
        have HM := Lib.hid (And.intro hML (And.intro hlo hhi))
        have Hval := Lib.hid (show nthI l (q + 1) = nthI r q from (Hsh.out q (by omega)).symm)
        have c1 : (q : Int) + 1 < n := by omega
        have c2 : (q : Int) < n := by omega
        have d1 : IntKind.i64.wrap ((q : Int) + 1) = (q : Int) + 1 := IntWalk.i64_in _ ⟨by omega, by omega⟩
        have d2 : IntKind.i64.wrap ((q : Int) + 1 + 1) = (q : Int) + 1 + 1 := IntWalk.i64_in _ ⟨by omega, by omega⟩
        have d3 : ((q : Int) + 1).toNat = q + 1 := by omega
        have d4 : 0 ≤ (q : Int) + 1 := by omega
        clear hML hlo hhi
        generalize nthI l (q + 1) = x at *
        go_wp2_with (go_at_call 83; refine hI.mono ?_; rintro e w2 ⟨rfl, rfl⟩)
        go_roundw
        case rel =>
          obtain ⟨hML, hlo, hhi⟩ := HM.out
          refine ⟨q + 1, M.set q x, by omega, by omega, by go_num, by go_num, by rw [List.length_set]; exact hML, fun t ht => ?_, fun t ht => ?_, kset, hup.trans (Upd.setCell _ _ _ _)⟩
          · rw [nthI_set (by omega)]
            by_cases e : q = t
            · rw [if_pos e, Hval.out, e]
            · rw [if_neg e]; exact hlo t (by omega)
          · rw [nthI_set (by omega), if_neg (by omega)]
            exact hhi t (by omega)
        case measure => simp [intOf]; omega
      · obtain rfl : n = q + 1 := by omega
        have k0 := hown.cell1 elemI.hk hML.symm q _ _ (nthI_some (l := M) (show q < M.length by omega)) rfl
        have kf := hown.frozen hML.symm q
        have hclr := clear1 g q (cap - q) wr _ k0 kf
        have kset := hown.set1 elemI.hk hML.symm q (nthI M q) 0 _ (nthI_some (by omega)) rfl
        have khd := kset.head elemI.hk (by rw [List.length_set]; exact hML.symm) q (by omega)
        have hrl : r.length = q := by have := Hel.out; have := HnB.out; omega
        have hfin := Hend.out (M.set q 0) (by rw [List.length_set, hML, Hln.out]) (fun t ht => by rw [nthI_set (by omega), if_neg (by omega)]; exact hlo t (by omega))
        rw [hrl] at hfin
        rw [hfin] at khd
        have HK := Lib.hid khd
        have c1 : ¬ (q : Int) + 1 < ((q + 1 : Nat) : Int) := by omega
        have c2 : ¬ cap = q := by omega
        have c3 : (q : Int) ≤ cap := by omega
        have c4 : (q : Int) ≤ (q : Int) + 1 := by omega
        have c5 : (q : Int) + 1 ≤ cap := by omega
        have c6 : q + 1 - q = 1 := by omega
        clear hML hlo hhi hfin hrl khd kset hown
        go_wp2
        go_ret
        exact ⟨⟨_, rfl, HK.out, rfl⟩, hup.trans (Upd.setCell _ _ _ _)⟩
  · have hix : idxI l k = -1 := by
      have := (idxI_ge l k).1
      have h2 : ¬ 0 ≤ idxI l k := fun h => hm (idxI_mem.1 h)
      omega
    obtain ⟨P, c', rfl, hs⟩ := h.slG elemI (by omega)
    have hF := indexFunc_any P c' l k c w hs hc
    rw [hix] at hF
    have HR := Lib.hid (filter_all hm)
    have HO := Lib.hid h
    clear hm hix h hd hs
    go_enter Try.func82, Try.ntmps82
    go_wp2_with (go_at_call 90; refine hF.mono ?_; rintro e w1 ⟨rfl, rfl⟩)
    go_ret
    exact ⟨⟨_, rfl, by rw [HR.out]; exact HO.out, rfl⟩, ⟨rfl, rfl, rfl, Nat.le_refl _, fun _ _ _ => rfl⟩⟩
end Go.Proofs.Ythmcdlieglollaa
