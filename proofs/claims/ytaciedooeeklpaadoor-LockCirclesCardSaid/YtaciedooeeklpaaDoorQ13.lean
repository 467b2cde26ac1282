/- LmE; LmF; LmG (merged by group.py) -/
import Derived.Test.YtaciedooeeklpaaDoorQ11
import Derived.Test.YtaciedooeeklpaaDoorQ12
import Derived.Lib.RowBridge
import Derived.Test.YtaciedooeeklpaaDoorQ03
namespace Go.Proofs.YtaciedooeeklpaaDoor
section
open Go.RowKit Go.Sort
set_option linter.unusedVariables false
set_option linter.unusedSimpArgs false
set_option linter.unusedSectionVars false
set_option maxRecDepth 100000
attribute [local go_sem] Oper.semAt_some

theorem compactTo (d : Array Int) (hd : ∀ i j, i ≤ j → j < d.size → d[i]! ≤ d[j]!) : ∀ m, m ≤ d.size → (Lib.compactUpTo d m).Pairwise (· < ·) ∧ (∀ x ∈ Lib.compactUpTo d m, ∃ j, j < m ∧ d[j]! = x) ∧ ∀ j, j < m → d[j]! ∈ Lib.compactUpTo d m
  | 0, _ => ⟨by simp [Lib.compactUpTo], by simp [Lib.compactUpTo], fun j h => by omega⟩
  | m + 1, hm => by
    obtain ⟨h1, h2, h3⟩ := compactTo d hd m (by omega)
    rw [Lib.compactUpTo_succ]
    by_cases hk : Lib.keeps d m = true
    · rw [if_pos hk]
      have hlt : ∀ x ∈ Lib.compactUpTo d m, x < d[m]! := fun x hx => by
        obtain ⟨j, hj, rfl⟩ := h2 x hx
        have a1 := hd j (m - 1) (by omega) (by omega)
        have a2 := hd (m - 1) m (by omega) (by omega)
        have a3 : d[m]! ≠ d[m - 1]! := by
          unfold Lib.keeps at hk
          rw [decide_eq_true_eq] at hk
          rcases hk with h | h
          · omega
          · exact h
        omega
      refine ⟨List.pairwise_append.2 ⟨h1, by simp, fun x hx y hy => ?_⟩, fun x hx => ?_, fun j hj => ?_⟩
      · rw [List.mem_singleton] at hy
        subst hy
        exact hlt x hx
      · rcases List.mem_append.1 hx with hx | hx
        · obtain ⟨j, hj, e⟩ := h2 x hx
          exact ⟨j, by omega, e⟩
        · rw [List.mem_singleton] at hx
          exact ⟨m, by omega, hx.symm⟩
      · by_cases e : j = m
        · subst e; simp
        · exact List.mem_append_left _ (h3 j (by omega))
    · rw [if_neg hk, List.append_nil]
      refine ⟨h1, fun x hx => ?_, fun j hj => ?_⟩
      · obtain ⟨j, hj, e⟩ := h2 x hx
        exact ⟨j, by omega, e⟩
      · by_cases e : j = m
        · subst e
          unfold Lib.keeps at hk
          rw [decide_eq_true_eq] at hk
          have h0 : j ≠ 0 := fun h => hk (.inl h)
          have h4 : d[j]! = d[j - 1]! := Classical.byContradiction fun h => hk (.inr h)
          rw [h4]
          exact h3 _ (by omega)
        · exact h3 j (by omega)
theorem compact_sorted {zs : List Int} (h : zs.Pairwise (· ≤ ·)) : (Lib.compact zs).Pairwise (· < ·) ∧ ∀ x, x ∈ Lib.compact zs ↔ x ∈ zs := by
  have hd : ∀ i j, i ≤ j → j < zs.toArray.size → zs.toArray[i]! ≤ zs.toArray[j]! := fun i j hij hj => by
    have hj' : j < zs.length := by simpa using hj
    have hi' : i < zs.length := by omega
    simp only [List.getElem!_toArray, List.getElem!_eq_getElem?_getD, List.getElem?_eq_getElem hj', List.getElem?_eq_getElem hi', Option.getD_some]
    rcases Nat.lt_or_eq_of_le hij with h1 | h1
    · exact List.pairwise_iff_getElem.1 h i j hi' hj' h1
    · subst h1; exact Int.le_refl _
  obtain ⟨h1, h2, h3⟩ := compactTo zs.toArray hd zs.length (by simp)
  refine ⟨h1, fun x => ⟨fun hx => ?_, fun hx => ?_⟩⟩
  · obtain ⟨j, hj, e⟩ := h2 x hx
    rw [← e]
    simp only [List.getElem!_toArray, List.getElem!_eq_getElem?_getD, List.getElem?_eq_getElem hj, Option.getD_some]
    exact List.getElem_mem hj
  · obtain ⟨j, hj, e⟩ := List.mem_iff_getElem.1 hx
    have := h3 j hj
    simp only [List.getElem!_toArray, List.getElem!_eq_getElem?_getD, List.getElem?_eq_getElem hj, Option.getD_some] at this
    rw [← e]
    exact this
theorem compact_sortU {s m : List Int} (h : ∀ x, x ∈ s ↔ x ∈ m) : Lib.compact (sortI s) = sortU m := by
  obtain ⟨h1, h2⟩ := compact_sorted (sortI_pair s)
  refine sorted_ext h1 (sortU_sorted m) fun v => ?_
  rw [h2, sortU_mem, (sortI_perm s).mem_iff, h]
theorem head_row {w : World} {base : Nat} {e : TypeId} {g n cap : Nat} {xs : List Value} (h : w.ownsRow base e 1 (.slice (some ⟨g, 0, none⟩) n cap) n xs) (i : Nat) (hi : i ≤ n) :
    w.ownsRow base e 1 (.slice (some ⟨g, 0, none⟩) i cap) i (xs.take i) := by
  refine ⟨by rw [List.length_take, h.1]; omega, ?_⟩
  rcases h.2 with ⟨h', _⟩ | ⟨g', cap', cur, h', hb, hg, hnc, hcm, hcs, htake⟩
  · simp at h'
  · simp only [Value.slice.injEq, Option.some.injEq, Addr.mk.injEq, and_true, true_and] at h'
    obtain ⟨rfl, rfl⟩ := h'
    refine .inr ⟨g, cap, cur, rfl, hb, hg, by omega, hcm, hcs, ?_⟩
    rw [← htake, List.take_take]
    congr 1
    omega
theorem lcompact_any (zs : List Int) (v : Value) (base : Nat) (w : World) (h : OwnI w base v zs) (hl : zs.length ≤ 300000) :
    Calls Tryd.prog 31 #[v] w fun e w' => ∃ v', e = .returned v' ∧ OwnI w' base v' (Lib.compact zs) ∧ w.grownBy w' v.ownBlock := by
  rcases h.2 with ⟨rfl, hz⟩ | ⟨gb, cap, cur, rfl, hbase, hgb, r1, r2, r3, r4⟩
  · obtain rfl : zs = [] := List.length_eq_zero_iff.1 hz
    refine (Tryd.slices_Compact_int_empty none 0 w).mono ?_
    rintro e w' ⟨rfl, rfl⟩
    exact ⟨_, rfl, OwnG.nil _ _ _ _ _, ⟨rfl, rfl, rfl, Nat.le_refl _, fun _ _ _ => rfl⟩⟩
  · rw [flat_ints] at r4
    have hH : Holds encZ w gb 0 zs.toArray := holds_of_block_i hgb (by simpa using r4)
    refine (Tryd.slices_Compact_int gb 0 cap zs w hH (by omega) r1).mono ?_
    rintro e w' ⟨rfl, q, rfl⟩
    have hcl := Lib.compact_length_le zs
    have hlen : (Lib.compact zs ++ List.replicate (zs.length - (Lib.compact zs).length) 0).length = zs.length := by simp; omega
    have hrow := ownsRow_sorted_i (w := w) (n := q) (os := #[]) (ss := zs) (ts := Lib.compact zs ++ List.replicate (zs.length - (Lib.compact zs).length) 0) hlen hbase hgb r1 r2 r3
    have hgr := grownBy_sorted_i (w := w) (n := q) (os := #[]) (g := gb) (Lib.compact zs ++ List.replicate (zs.length - (Lib.compact zs).length) 0).toArray
    rw [grow_empty] at hrow hgr
    refine ⟨_, rfl, ?_, hgr⟩
    have := head_row hrow (Lib.compact zs).length hcl
    unfold OwnI OwnG
    rw [flat_ints]
    rw [List.map_append, List.take_left' (by simp)] at this
    exact this
/-- the units for which a unit waits -/
def wfL (S : LkSt) (u : Int) : List Int := match S.L[waitsL S.L u]? with
  | none => []
  | some r => sortU (forL S.H (S.L.take (waitsL S.L u)) r.1)
theorem findIdx_first {α : Type} {p : α → Bool} : ∀ {A B : List α} {r : α}, (∀ x ∈ A, p x = false) → p r = true → (A ++ r :: B).findIdx p = A.length
  | [], B, r, _, h => by simp [List.findIdx_cons, h]
  | a :: A, B, r, hA, h => by
    rw [List.cons_append, List.findIdx_cons, hA a (List.mem_cons_self ..)]
    simp only [cond_false, List.length_cons]
    rw [findIdx_first (fun x hx => hA x (List.mem_cons_of_mem _ hx)) h]
theorem wf_next (S : LkSt) (hu : UnitsN S.L) (u : Int) : wfL S u = nextU (edgeF S.H [] S.L) u := by
  have hs : (wfL S u).Pairwise (· < ·) := by
    unfold wfL
    split
    · exact List.Pairwise.nil
    · exact sortU_sorted _
  refine sorted_ext hs (sortU_sorted _) fun v => ?_
  rw [nextU_iff, edgeF_edge]
  constructor
  · intro hv
    unfold wfL at hv
    split at hv
    · cases hv
    · next r hr =>
      rw [sortU_mem] at hv
      obtain ⟨hlt, hg⟩ := List.getElem?_eq_some_iff.1 hr
      refine ⟨S.L.take (waitsL S.L u), r, S.L.drop (waitsL S.L u + 1), ?_, ?_, hv⟩
      · rw [← hg, ← List.drop_eq_getElem_cons hlt, List.take_append_drop]
      · have hp := List.findIdx_getElem (p := fun e : Gr × Bool => decide (e.1.1 = u)) (w := hlt)
        have hg2 : S.L[List.findIdx (fun e : Gr × Bool => decide (e.1.1 = u)) S.L] = r := hg
        rw [hg2] at hp
        exact of_decide_eq_true hp
  · rintro ⟨A, r, B, hL, hr, hv⟩
    have hA : ∀ x ∈ A, decide (x.1.1 = u) = false := fun x hx => by
      have h1 : ((A ++ r :: B).map fun e => e.1.1).Nodup := by rw [← hL]; exact hu
      rw [List.map_append, List.map_cons, List.nodup_append] at h1
      refine decide_eq_false fun e => ?_
      exact h1.2.2 _ (List.mem_map.2 ⟨x, hx, rfl⟩) _ (List.mem_cons_self ..) (by rw [e, hr])
    have hi : waitsL S.L u = A.length := by
      unfold waitsL
      rw [hL]
      exact findIdx_first hA (decide_eq_true hr)
    unfold wfL
    have hat : S.L[waitsL S.L u]? = some r := by
      rw [hi, hL]
      simp
    rw [hat]
    simp only
    rw [sortU_mem, hi, hL, List.take_left']
    · exact hv
    · rfl
set_option maxHeartbeats 2000000 in
theorem lwaitsFor_any (u : Int) (w : World) {F : Nat → Prop} {b : Nat} {v : Value} {S : LkSt} (h : LockS w F b v S) (hk : LkOk S) :
    Calls Tryd.prog 56 #[.pointer (some ⟨b + 2, 0, none⟩), .int .i64 u] w fun e w' => (∃ v', e = .returned v' ∧ OwnI w' w.heap.size v' (wfL S u)) ∧ Ext w w' := by
  have hW := lwaits_any u w h (by have := hk.ln; omega)
  have hfi : S.L.findIdx (fun y : Rq => decide (y.1.1 = u)) = waitsL S.L u := rfl
  unfold idxR at hW
  rw [hfi] at hW
  by_cases hlt : waitsL S.L u < S.L.length
  · rw [if_pos hlt] at hW
    obtain ⟨r, hr⟩ : ∃ r, S.L[waitsL S.L u]? = some r := ⟨_, List.getElem?_eq_getElem hlt⟩
    have HWF := Lib.hid (show wfL S u = sortU (forL S.H (S.L.take (waitsL S.L u)) r.1) from by unfold wfL; rw [hr])
    generalize hi : waitsL S.L u = i at *
    have h0 : (0 : Int) ≤ (i : Int) := by omega
    have h0' : ¬ (i : Int) < 0 := by omega
    obtain ⟨P, cap, rfl, hsl⟩ := OwnG.slG elemR h.line (by have := hk.ln; omega)
    obtain ⟨bb, off, hP, g0, g1, g2, g3⟩ := SlR.at4 hsl i r hr
    subst hP
    have hrl : GrOk r.1 := hk.l r (List.mem_of_getElem? hr)
    have hLen := hk.ln
    have il : (i : Int) < S.L.length := by omega
    have HH := Lib.hid (And.intro h hk)
    have hB := fun W => lblocked_any b i r W
    have hAll : ∀ w1, Ext w w1 → w1.cell? ⟨b + 2, 2, none⟩ = some (.slice (some ⟨bb, off, none⟩) S.L.length cap) ∧ w1.cell? ⟨bb, off + i * 4, none⟩ = some (.int .i64 r.1.1) ∧ w1.cell? ⟨bb, off + i * 4 + 1, none⟩ = some (.string r.1.2.1) ∧ w1.cell? ⟨bb, off + i * 4 + 2, none⟩ = some (.int .i64 r.1.2.2) ∧ w1.cell? ⟨bb, off + i * 4 + 3, none⟩ = some (.bool r.2) :=
      fun w1 hx1 => ⟨(h.ext hx1).box.cell (i := 2) rfl, hx1.cell g0, hx1.cell g1, hx1.cell g2, hx1.cell g3⟩
    have hSo : ∀ w1 W4, Ext w w1 → W4 = ((w1.alloc (.cells #[.pointer (some ⟨b + 2, 0, none⟩)] 35)).alloc (.cells (Rq.cells r).toArray 75)).alloc (.cells #[.int .i64 i] 3) →
        Calls Tryd.prog 32 #[.func (.func 70) #[] #[.pointer (some ⟨w1.heap.size, 0, none⟩), .pointer (some ⟨w1.heap.size + 1, 0, none⟩), .pointer (some ⟨w1.heap.size + 2, 0, none⟩)]] W4 fun e w' => (∃ v s, e = .returned v ∧ OwnI w' W4.heap.size v (sortI s) ∧ BkD S.H (S.L.take i) r.1 s ∧ (∀ x ∈ s, x ∈ forL S.H (S.L.take i) r.1) ∧ s.length ≤ S.H.length + (S.L.take i).length) ∧ Ext W4 w' := fun w1 W4 hx1 hW4 => by
      obtain ⟨om, hKK⟩ := (h.ext hx1).bkK i r
      rw [← hW4] at hKK
      have hseq := blocked_seq w1.heap.size b i r om (.slice (some ⟨bb, off, none⟩) S.L.length cap) S.H S.L (by omega) (by omega) hrl.1 hrl.2 (fun e he => (hk.h e he).1) hk.l
      exact sortedM 70 _ _ _ (fun s => ∀ x ∈ s, x ∈ forL S.H (S.L.take i) r.1) (S.H.length + (S.L.take i).length) _ hseq (enters_of Tryd.func70 (by kernel_rfl) rfl) (by have := hk.hn; rw [List.length_take]; omega)
        (fun s e s' h => by obtain ⟨x, h1, h2, h3, h4⟩ := h; exact ⟨x, h1, h2, by simpa using h4⟩) (fun s e s' h hp y hy => by
          obtain ⟨x, h1, rfl, h3, h4⟩ := h
          rcases List.mem_append.1 hy with hy | hy
          · exact hp y hy
          · rw [List.mem_singleton] at hy; rw [hy]; exact h3) (by simp) W4 (fun A hA => hKK.ext hA)
    have hCm : ∀ w6 vs zs W, OwnI w6 W vs (sortI zs) → BkD S.H (S.L.take i) r.1 zs → (∀ x ∈ zs, x ∈ forL S.H (S.L.take i) r.1) → zs.length ≤ S.H.length + (S.L.take i).length → Calls Tryd.prog 31 #[vs] w6 fun e w' => ∃ v', e = .returned v' ∧ OwnI w' W v' (wfL S u) ∧ w6.grownBy w' vs.ownBlock := fun w6 vs zs W hov hfin hpv hlz => by
      have := lcompact_any (sortI zs) vs W w6 hov (by rw [sortI_len]; have := hk.hn; rw [List.length_take] at hlz; omega)
      rw [compact_sortU (m := forL S.H (S.L.take i) r.1) (fun x => ⟨hpv x, hfin x⟩), ← HWF.out] at this
      exact this
    unfold Rq.v at hB
    unfold Rq.cells at hSo hB
    clear hsl hfi h hk hr hi g0 g1 g2 g3
    go_enter Tryd.func56, Tryd.ntmps56
    go_wp2_with (first
      | (go_at_call 52; refine hW.mono ?_; rintro e w1 ⟨rfl, hx1⟩; obtain ⟨kb1, k0, k1, k2, k3⟩ := hAll w1 hx1)
      | (go_at_call 53; refine (hB _).mono ?_; rintro e w5 ⟨rfl, h5⟩; replace h5 := Lib.hid h5)
      | (go_at_call 32; refine (hSo w1 w5 hx1 h5.out).mono ?_; rintro e w6 ⟨⟨vs, zs, rfl, hov, hfin, hpv, hlz⟩, hx6⟩)
      | (go_at_call 31; refine (hCm w6 vs zs _ hov hfin hpv hlz).mono ?_; rintro e w7 ⟨v7, rfl, ho7, hg7⟩))
    have hx5 : Ext w1 w5 := by rw [h5.out]; exact (((Ext.refl _).alloc _).alloc _).alloc _
    have hb6 := hov.base_
    go_ret
    have hx14 := hx1.trans hx5
    refine ⟨⟨_, rfl, OwnG.down ho7 hx14.size⟩, ?_⟩
    exact hx14.trans (Below.grown hx6 hg7 hx6.size (fun k hk => hb6 k hk))
  · rw [if_neg hlt] at hW
    have HWF := Lib.hid (show wfL S u = [] from by unfold wfL; rw [List.getElem?_eq_none (by omega)])
    clear hfi
    go_enter Tryd.func56, Tryd.ntmps56
    go_wp2_with (go_at_call 52; refine hW.mono ?_; rintro e w1 ⟨rfl, hx1⟩)
    go_ret
    exact ⟨⟨_, rfl, by rw [HWF.out]; exact OwnG.nil _ _ _ _ _⟩, hx1⟩
end
section
set_option linter.unusedVariables false
set_option linter.unusedSimpArgs false

section
variable {next : Int → List Int}
theorem metP_app : ∀ (a b : List (List Int)) (met : List Int), metP next (a ++ b) met = metP next b (metP next a met)
  | [], _, _ => rfl
  | w :: a, b, met => by
    show metP next (a ++ b) _ = _
    rw [metP_app a b]
    rfl
theorem expP_app : ∀ (a b : List (List Int)) (met : List Int), expP next (a ++ b) met = expP next a met ++ expP next b (metP next a met)
  | [], _, _ => rfl
  | w :: a, b, met => by
    show _ ++ expP next (a ++ b) _ = _
    rw [expP_app a b]
    show _ = (_ ++ _) ++ _
    rw [List.append_assoc]
    rfl
end
/-- the new ones among the first k of a list -/
def newK (met ns : List Int) (k : Nat) : List Int := (ns.take k).filter fun v => decide (v ∉ met)
theorem newK_succ {met ns : List Int} {k : Nat} {v : Int} (h : ns[k]? = some v) : newK met ns (k + 1) = newK met ns k ++ (if v ∉ met then [v] else []) := by
  unfold newK
  rw [List.take_add_one, h, Option.toList_some, List.filter_append]
  congr 1
  by_cases hv : v ∈ met
  · rw [if_neg (fun h => h hv)]; simp [hv]
  · rw [if_pos hv]; simp [hv]
theorem newK_all (met ns : List Int) : newK met ns ns.length = ns.filter fun v => decide (v ∉ met) := by unfold newK; rw [List.take_length]
theorem newK_mem {met ns : List Int} (hn : ns.Nodup) {k : Nat} {v : Int} (h : ns[k]? = some v) : v ∈ met ++ newK met ns k ↔ v ∈ met := by
  rw [List.mem_append]
  constructor
  · rintro (h1 | h1)
    · exact h1
    · exfalso
      unfold newK at h1
      have h2 := (List.mem_filter.1 h1).1
      obtain ⟨i, hi, he⟩ := List.mem_iff_getElem.1 h2
      rw [List.length_take] at hi
      rw [List.getElem_take] at he
      obtain ⟨hk, hg⟩ := List.getElem?_eq_some_iff.1 h
      have hik : i < k := by omega
      exact List.pairwise_iff_getElem.1 hn i k (by omega) hk hik (he.trans hg.symm)
  · exact .inl
theorem newK_ok {E : List (Int × Int)} {u : Int} (met : List Int) (k : Nat) : (newK met (nextU E u) k).Nodup ∧ ∀ v ∈ newK met (nextU E u) k, v ∉ met ∧ ∃ u, (u, v) ∈ E := by
  have hn : (nextU E u).Nodup := (sortU_sorted _).imp (fun h => by omega)
  refine ⟨?_, fun v hv => ?_⟩
  · unfold newK
    exact List.Nodup.sublist (List.filter_sublist.trans (List.take_sublist _ _)) hn
  · unfold newK at hv
    obtain ⟨h1, h2⟩ := List.mem_filter.1 hv
    exact ⟨by simpa using h2, u, (nextU_iff E u v).1 (List.mem_of_mem_take h1)⟩
theorem unmet_new {E : List (Int × Int)} : ∀ (new met : List Int), new.Nodup → (∀ v ∈ new, v ∉ met ∧ ∃ u, (u, v) ∈ E) → new.length + unmet E (met ++ new) ≤ unmet E met
  | [], met, _, _ => by simp
  | v :: r, met, hn, h => by
    obtain ⟨h1, h2⟩ := List.nodup_cons.1 hn
    obtain ⟨hv, u, hu⟩ := h v (List.mem_cons_self ..)
    have ih := unmet_new r (met ++ [v]) h2 (fun x hx => by
      obtain ⟨a, b⟩ := h x (List.mem_cons_of_mem _ hx)
      refine ⟨fun hm => ?_, b⟩
      rcases List.mem_append.1 hm with hm | hm
      · exact a hm
      · rw [List.mem_singleton] at hm
        subst hm
        exact h1 hx)
    have hlt : unmet E (met ++ [v]) < unmet E met := by
      unfold unmet
      refine filter_lt (fun x hx => ?_) ⟨(u, v), hu, by simpa using hv, by simp⟩
      simp only [decide_eq_true_eq, List.mem_append, not_or] at hx ⊢
      exact hx.1
    rw [List.append_assoc] at ih
    simp only [List.length_cons]
    simp only [List.cons_append, List.nil_append] at ih
    omega
theorem expP_len {E : List (Int × Int)} : ∀ (ws : List (List Int)) (met : List Int), (expP (nextU E) ws met).length + unmet E (metP (nextU E) ws met) ≤ unmet E met
  | [], met => by simp [expP, metP]
  | w :: ws, met => by
    have h1 := newK_ok (E := E) (u := endW w) met (nextU E (endW w)).length
    rw [newK_all] at h1
    have h2 := unmet_new (E := E) _ met h1.1 h1.2
    have ih := expP_len (E := E) ws (met ++ (nextU E (endW w)).filter fun v => decide (v ∉ met))
    unfold expP metP
    rw [List.length_append, List.length_map]
    omega
/-- a level of the search -/
structure LvP (E : List (Int × Int)) (s : Int) (f n : Nat) (ws : List (List Int)) (met : List Int) : Prop where
  eq : circP (nextU E) s f ws met = circF E s
  fuel : ws = [] ∨ unmet E met < f
  len : ∀ w ∈ ws, w.length = n
  pos : 1 ≤ n
  fn : n + f ≤ E.length + 2
  wl : ws.length ≤ E.length + 1
  ml : met.length + unmet E met ≤ E.length
theorem unmet_le (E : List (Int × Int)) (met : List Int) : unmet E met ≤ E.length := List.length_filter_le _ _
theorem metP_len {E : List (Int × Int)} : ∀ (ws : List (List Int)) (met : List Int), (metP (nextU E) ws met).length = met.length + (expP (nextU E) ws met).length
  | [], met => by simp [metP, expP]
  | a :: ws, met => by
    unfold metP expP
    rw [metP_len ws]
    simp only [List.length_append, List.length_map]
    omega
theorem LvP.first (E : List (Int × Int)) (s : Int) : LvP E s (E.length + 1) 1 [[s]] [] :=
  ⟨rfl, .inr (by have := unmet_le E []; omega), by simp, Nat.le_refl _, by omega, by simp, by have := unmet_le E []; simpa using this⟩
theorem LvP.none {E : List (Int × Int)} {s : Int} {f n : Nat} {met : List Int} (h : LvP E s f n [] met) : circF E s = none := by
  rw [← h.eq]
  cases f <;> simp [circP]
/-- no way of the first j leads back -/
def NoBack (E : List (Int × Int)) (s : Int) (ws : List (List Int)) (j : Nat) : Prop := ∀ w ∈ ws.take j, s ∉ nextU E (endW w)
theorem LvP.found {E : List (Int × Int)} {s : Int} {f n : Nat} {ws : List (List Int)} {met : List Int} (h : LvP E s f n ws met) {j : Nat} {w : List Int} (hw : ws[j]? = some w) (hb : NoBack E s ws j) (hs : s ∈ nextU E (endW w)) : circF E s = some w := by
  obtain ⟨hj, hg⟩ := List.getElem?_eq_some_iff.1 hw
  have hne : ws ≠ [] := by intro e; rw [e] at hj; simp at hj
  rw [← h.eq]
  cases f with
  | zero =>
    rcases h.fuel with h1 | h1
    · exact absurd h1 hne
    · omega
  | succ f =>
    have hB : backP (nextU E) s ws = some w := by
      unfold backP
      have e : ws = ws.take j ++ w :: ws.drop (j + 1) := by rw [← hg, ← List.drop_eq_getElem_cons hj, List.take_append_drop]
      rw [e, List.find?_append, List.find?_eq_none.2 (fun x hx => by simpa using hb x hx)]
      simp [hs]
    unfold circP
    rw [if_neg hne, hB]
theorem LvP.step {E : List (Int × Int)} {s : Int} {f n : Nat} {ws : List (List Int)} {met : List Int} (h : LvP E s f n ws met) (hne : ws ≠ []) (hb : NoBack E s ws ws.length) : ∃ f', f = f' + 1 ∧ LvP E s f' (n + 1) (expP (nextU E) ws met) (metP (nextU E) ws met) := by
  have hu : unmet E met < f := by
    rcases h.fuel with h1 | h1
    · exact absurd h1 hne
    · exact h1
  cases f with
  | zero => omega
  | succ f =>
    refine ⟨f, rfl, ?_, ?_, ?_, by have := h.pos; omega, by have := h.fn; omega, ?_, by have := h.ml; have := expP_len (E := E) ws met; rw [metP_len]; omega⟩
    · rw [← h.eq]
      have hB : backP (nextU E) s ws = Option.none := by
        unfold backP
        refine List.find?_eq_none.2 (fun x hx => ?_)
        have := hb x (by rw [List.take_length]; exact hx)
        simpa using this
      conv => rhs; unfold circP
      rw [if_neg hne, hB]
    · by_cases he : expP (nextU E) ws met = []
      · exact .inl he
      · exact .inr (by have := unmet_lt (nextU_iff E) he; omega)
    · intro x hx
      obtain ⟨xs, w, bs, v, e1, rfl, _⟩ := expP_iff.1 hx
      rw [List.length_append, h.len w (by rw [e1]; simp)]
      rfl
    · have h1 := expP_len (E := E) ws met
      have h2 := unmet_le E met
      omega
theorem NoBack.succ {E : List (Int × Int)} {s : Int} {ws : List (List Int)} {j : Nat} (h : NoBack E s ws j) {w : List Int} (hw : ws[j]? = some w) (hs : s ∉ nextU E (endW w)) : NoBack E s ws (j + 1) := by
  intro x hx
  rw [List.take_add_one, hw, Option.toList_some, List.mem_append, List.mem_singleton] at hx
  rcases hx with hx | rfl
  · exact h x hx
  · exact hs
theorem exp_take {E : List (Int × Int)} {ws : List (List Int)} {met : List Int} {j : Nat} {w : List Int} (hw : ws[j]? = some w) :
    expP (nextU E) (ws.take (j + 1)) met = expP (nextU E) (ws.take j) met ++ (newK (metP (nextU E) (ws.take j) met) (nextU E (endW w)) (nextU E (endW w)).length).map (fun v => w ++ [v]) ∧
      metP (nextU E) (ws.take (j + 1)) met = metP (nextU E) (ws.take j) met ++ newK (metP (nextU E) (ws.take j) met) (nextU E (endW w)) (nextU E (endW w)).length := by
  rw [List.take_add_one, hw, Option.toList_some, expP_app, metP_app, newK_all]
  exact ⟨by simp [expP], rfl⟩
/-- how many ways there are, on the way through a level -/
theorem more_len {E : List (Int × Int)} (ws : List (List Int)) (met : List Int) (j : Nat) (w : List Int) (k : Nat) :
    (expP (nextU E) (ws.take j) met ++ (newK (metP (nextU E) (ws.take j) met) (nextU E (endW w)) k).map (fun v => w ++ [v])).length ≤ E.length ∧ (metP (nextU E) (ws.take j) met ++ newK (metP (nextU E) (ws.take j) met) (nextU E (endW w)) k).length ≤ E.length + met.length := by
  have h1 := expP_len (E := E) (ws.take j) met
  have h2 := newK_ok (E := E) (u := endW w) (metP (nextU E) (ws.take j) met) k
  have h3 := unmet_new (E := E) _ _ h2.1 h2.2
  have h4 := unmet_le E met
  rw [List.length_append, List.length_map, List.length_append, metP_len]
  omega
theorem sortU_len (l : List Int) : (sortU l).length ≤ l.length := by
  have hadd : ∀ (a : List Int) (n : Int), (addU a n).length ≤ a.length + 1 := by
    intro a
    induction a with
    | nil => intro n; simp [addU]
    | cons x a ih =>
      intro n
      unfold addU
      split
      · simp only [List.length_cons]; have := ih n; omega
      · split <;> simp
  have hf : ∀ (m a : List Int), (m.foldl addU a).length ≤ a.length + m.length := by
    intro m
    induction m with
    | nil => intro a; simp
    | cons x m ih =>
      intro a
      rw [List.foldl_cons]
      refine Nat.le_trans (ih _) ?_
      have := hadd a x
      simp only [List.length_cons]
      omega
  have := hf l []
  unfold sortU
  simpa using this
theorem nextU_len (E : List (Int × Int)) (u : Int) : (nextU E u).length ≤ E.length := by
  unfold nextU
  refine Nat.le_trans (sortU_len _) ?_
  rw [List.length_map]
  exact List.length_filter_le _ _
end
section
open Go.RowKit Go.Maps
set_option linter.unusedVariables false
set_option linter.unusedSimpArgs false
set_option linter.unusedSectionVars false
set_option maxRecDepth 100000
attribute [local go_sem] Oper.semAt_some

abbrev MetI (w : World) (M : Nat) (l : List Int) : Prop := MetG (fun x => Lit.int .i64 x) Tryd.prog 3 4 w M l
theorem zeroB (w : World) : (zeroValue 4).run Tryd.prog w = .ok (.bool false) w := by kernel_rfl
theorem int_inj : ∀ x y : Int, (fun x => Lit.int .i64 x) x = (fun x => Lit.int .i64 x) y → x = y := fun x y h => by simpa using h
theorem keyedI : Keyed Tryd.prog 3 := int_keyed Tryd.underlying3
theorem key_i {x : Int} (h1 : -9223372036854775808 ≤ x) (h2 : x ≤ 9223372036854775807) : keyOf Tryd.prog 3 (.int .i64 x) = some (.int .i64 x) :=
  keyOf_int_mk Tryd.underlying3 (by simp [Lit.wf, IntKind.min, IntKind.max, IntKind.signed, IntKind.bits]; omega)
/-- block b is no block of cells -/
def NoCells (w : World) (m : Nat) : Prop := ∃ o, w.heap[m]? = some o ∧ ∀ c t fr, o ≠ .cells c t fr
theorem MetI.noCells {w : World} {M : Nat} {l : List Int} (h : MetI w M l) : NoCells w M := by
  obtain ⟨D, n, _, ⟨es, clock, hb, _⟩, _⟩ := h
  exact ⟨_, hb, fun c t fr e => by cases e⟩
theorem NoCells.own {α : Type} {cs : α → List Value} {e : TypeId} {k : Nat} {w : World} {m base : Nat} {v : Value} {l : List α} (h : NoCells w m) (ho : OwnG cs e k w base v l) : ∀ g, v.ownBlock = some g → g ≠ m := fun g hg e => by
  subst e
  obtain ⟨o, hb, hn⟩ := h
  rcases ho.not_loop hb (fun c e => hn _ _ _ e) with h1 | h1
  · rw [h1] at hg; cases hg
  · exact h1 hg
theorem NoCells.off {α : Type} {cs : α → List Value} {w : World} {m : Nat} {P : Option Addr} {c : Nat} {l : List α} (h : NoCells w m) (hk : ∀ x, 0 < (cs x).length) (hs : SlG cs w P c l) : Off (fun i => i = m) P l := by
  intro hne b off e hb
  subst hb
  obtain ⟨o, hb, hn⟩ := h
  cases l with
  | nil => exact hne rfl
  | cons x l =>
    obtain ⟨g, o2, e2, h1⟩ := hs.at_ 0 x rfl
    rw [e] at e2
    injection e2 with e2
    injection e2 with e3 e4
    subst e3
    have := h1 0 _ (List.getElem?_eq_getElem (hk x))
    unfold World.cell? at this
    simp only [hb] at this
    cases o <;> simp at this
    exact hn _ _ _ rfl
/-- a way in memory -/
abbrev WayV := Option Addr × Nat × List Int
def csW (x : WayV) : List Value := [.slice x.1 x.2.2.length x.2.1]
theorem elemW : ElemG csW 89 30 1 24 where
  ht := Tryd.underlying89
  info := by
    have h : (Tryd.prog.info? 30).map (fun i => (i.zero, i.size, i.bytes)) = some (some (.slice none 0 0), 1, 24) := by kernel_rfl
    cases hq : Tryd.prog.info? 30 with
    | none => simp [hq] at h
    | some i => simp [hq] at h; exact ⟨i, _, rfl, h.1, h.2.1, h.2.2, rfl⟩
  k0 := by omega
  hk := fun _ => rfl
  one := fun x u hu => by
    simp [csW] at hu
    subst hu; rfl
theorem csW_pos (x : WayV) : 0 < (csW x).length := by simp [csW]
theorem int_pos (x : Int) : 0 < [Value.int .i64 x].length := by simp
/-- the ways, to be read -/
structure WaysR (w : World) (P : Option Addr) (c : Nat) (ws : List (List Int)) : Prop where
  ex : ∃ rows : List WayV, SlG csW w P c rows ∧ rows.map (·.2.2) = ws ∧ ∀ x ∈ rows, SlI w x.1 x.2.1 x.2.2
theorem WaysR.len {w : World} {P : Option Addr} {c : Nat} {ws : List (List Int)} (h : WaysR w P c ws) : ws.length ≤ c ∧ c ≤ 9223372036854775807 := by
  obtain ⟨rows, h1, h2, _⟩ := h.ex
  rw [← h2, List.length_map]
  exact ⟨h1.le, h1.cap⟩
/-- the way at a place -/
theorem WaysR.at {w : World} {P : Option Addr} {c : Nat} {ws : List (List Int)} (h : WaysR w P c ws) {j : Nat} {l : List Int} (hl : ws[j]? = some l) : ∃ b off Pw cw, P = some ⟨b, off, none⟩ ∧ w.cell? ⟨b, off + j, none⟩ = some (.slice Pw l.length cw) ∧ SlI w Pw cw l := by
  obtain ⟨rows, h1, h2, h3⟩ := h.ex
  rw [← h2, List.getElem?_map] at hl
  obtain ⟨x, hx, e⟩ := Option.map_eq_some_iff.1 hl
  subst e
  obtain ⟨b, off, e, hc⟩ := h1.at_ j x hx
  refine ⟨b, off, x.1, x.2.1, e, ?_, h3 x (List.mem_of_getElem? hx)⟩
  have := hc 0 _ rfl
  simpa [csW] using this
theorem WaysR.upd {w w' : World} {P : Option Addr} {c m : Nat} {ws : List (List Int)} (h : WaysR w P c ws) (hm : NoCells w m) (hu : UpdF (fun i => i = m) w w') : WaysR w' P c ws := by
  obtain ⟨rows, h1, h2, h3⟩ := h.ex
  exact ⟨rows, h1.upd hu (hm.off csW_pos h1), h2, fun x hx => (h3 x hx).upd hu (hm.off int_pos (h3 x hx))⟩
theorem WaysR.ext {w w' : World} {P : Option Addr} {c : Nat} {ws : List (List Int)} (h : WaysR w P c ws) (hx : Ext w w') : WaysR w' P c ws := by
  obtain ⟨rows, h1, h2, h3⟩ := h.ex
  exact ⟨rows, h1.ext hx, h2, fun x hx' => (h3 x hx').ext hx⟩
theorem WaysR.one {w : World} {Pw : Option Addr} {cw : Nat} {l : List Int} (h : SlI w Pw cw l) : WaysR (w.alloc (.cells #[.slice Pw l.length cw] 30)) (some ⟨w.heap.size, 0, none⟩) 1 [l] :=
  ⟨[(Pw, cw, l)], SlG.one elemW.hk (Pw, cw, l) rfl rfl, rfl, fun x hx => by
    rw [List.mem_singleton] at hx
    subst hx
    exact h.ext ((Ext.refl _).alloc _)⟩
/-- the ways of the next level, in a block of the call's own -/
structure WaysO (w : World) (base : Nat) (v : Value) (ws : List (List Int)) : Prop where
  ex : ∃ rows : List WayV, OwnG csW 30 1 w base v rows ∧ rows.map (·.2.2) = ws ∧ (∀ x ∈ rows, SlI w x.1 x.2.1 x.2.2) ∧ ∀ g, v.ownBlock = some g → ∀ x ∈ rows, Off (fun i => i = g) x.1 x.2.2
theorem WaysO.nil (w : World) (base : Nat) : WaysO w base (.slice none 0 0) [] := ⟨[], OwnG.nil _ _ _ _ _, rfl, (fun x hx => by cases hx), (fun g hg => by cases hg)⟩
theorem WaysO.ext {w w' : World} {base : Nat} {v : Value} {ws : List (List Int)} (h : WaysO w base v ws) (hx : Ext w w') : WaysO w' base v ws := by
  obtain ⟨rows, h1, h2, h3, h4⟩ := h.ex
  exact ⟨rows, h1.ext hx, h2, fun x hx' => (h3 x hx').ext hx, h4⟩
theorem WaysO.upd {w w' : World} {base m : Nat} {v : Value} {ws : List (List Int)} (h : WaysO w base v ws) (hm : NoCells w m) (hu : UpdF (fun i => i = m) w w') : WaysO w' base v ws := by
  obtain ⟨rows, h1, h2, h3, h4⟩ := h.ex
  exact ⟨rows, h1.upd hu (fun g hg => hm.own h1 g hg), h2, fun x hx => (h3 x hx).upd hu (hm.off int_pos (h3 x hx)), h4⟩
theorem WaysO.read {w : World} {base : Nat} {v : Value} {ws : List (List Int)} (h : WaysO w base v ws) (hl : ws.length ≤ 9223372036854775807) : ∃ P c, v = .slice P ws.length c ∧ WaysR w P c ws := by
  obtain ⟨rows, h1, h2, h3, h4⟩ := h.ex
  have e : rows.length = ws.length := by rw [← h2, List.length_map]
  obtain ⟨P, c, hv, hs⟩ := h1.slG elemW (by omega)
  exact ⟨P, c, by rw [hv, e], rows, hs, h2, h3⟩
theorem WaysO.base_ {w : World} {base : Nat} {v : Value} {ws : List (List Int)} (h : WaysO w base v ws) {g : Nat} (hg : v.ownBlock = some g) : base ≤ g ∧ g < w.heap.size := by
  obtain ⟨rows, h1, _⟩ := h.ex
  exact own_lt h1 hg
/-- a way more was appended -/
theorem ways_push {w w' : World} {base : Nat} {v v' : Value} {ws : List (List Int)} {rows : List WayV} (h2 : rows.map (·.2.2) = ws) (h3 : ∀ x ∈ rows, SlI w x.1 x.2.1 x.2.2) (h4 : ∀ g, v.ownBlock = some g → ∀ x ∈ rows, Off (fun i => i = g) x.1 x.2.2)
    {x : WayV} (hs : SlI w x.1 x.2.1 x.2.2) (hoff : ∀ g, v.ownBlock = some g → Off (fun i => i = g) x.1 x.2.2)
    (ho : OwnG csW 30 1 w' base v' (rows ++ [x])) (hg : w.grownBy w' v.ownBlock) (hob : v'.ownBlock = v.ownBlock ∨ v'.ownBlock = some w.heap.size) : WaysO w' base v' (ws ++ [x.2.2]) := by
  have hu := UpdF.of_grown hg
  have hall : ∀ y ∈ rows ++ [x], SlI w y.1 y.2.1 y.2.2 ∧ ∀ g, v.ownBlock = some g → Off (fun i => i = g) y.1 y.2.2 := by
    intro y hy
    rcases List.mem_append.1 hy with h1 | h1
    · exact ⟨h3 y h1, fun g hg => h4 g hg y h1⟩
    · obtain rfl := List.mem_singleton.1 h1
      exact ⟨hs, hoff⟩
  refine ⟨rows ++ [x], ho, by rw [List.map_append, h2]; rfl, fun y hy => ?_, fun g hg' y hy => ?_⟩
  · obtain ⟨h1, h2⟩ := hall y hy
    refine h1.upd hu ?_
    cases hv : v.ownBlock with
    | none => exact fun _ b off _ hb => by cases hb
    | some g => exact (h2 g hv).mono (fun i hi => by injection hi with hi; exact hi.symm)
  · obtain ⟨h1, h2⟩ := hall y hy
    rcases hob with e | e
    · exact h2 g (e ▸ hg')
    · rw [e] at hg'
      injection hg' with hg'
      subst hg'
      exact (h1.lt int_pos).mono (fun i hi => by subst hi; exact Nat.le_refl _)
theorem lclone_any {W : World} {P : Option Addr} {c : Nat} {l : List Int} (h : SlI W P c l) (hn : l ≠ []) (hl : l.length ≤ 10000000000000) :
    Calls Tryd.prog 47 #[.slice P l.length c] W fun e w' => ∃ v', e = .returned v' ∧ OwnI w' W.heap.size v' l ∧ Ext W w' := by
  obtain ⟨b, off, hP, _⟩ := h.intAt 0 (List.length_pos_iff.2 hn)
  subst hP
  refine (Tryd.slices_Clone_int b off l.length c l W (Nat.le_refl _) (by omega) (fun j hj => ?_)).mono ?_
  · obtain ⟨b', off', e, g0⟩ := h.intAt j hj
    injection e with e
    injection e with e1 e2
    subst e1 e2
    exact g0
  · rintro e w' ⟨v', rfl, ho, _, hx⟩
    refine ⟨v', rfl, ?_, hx⟩
    unfold OwnI OwnG
    rw [flat_ints]
    rw [List.take_length] at ho
    exact ho
theorem endW_get {l : List Int} (h : l ≠ []) : l.getD (l.length - 1) 0 = endW l := by
  unfold endW
  rw [List.getLastD_eq_getLast?, List.getLast?_eq_getElem?, List.getD_eq_getElem?_getD]
end
end Go.Proofs.YtaciedooeeklpaaDoor
