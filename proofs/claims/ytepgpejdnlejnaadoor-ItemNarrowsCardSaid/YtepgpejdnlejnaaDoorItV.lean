/- A row as it is written: item.Text. -/
import Derived.Test.YtepgpejdnlejnaaDoorItU
import Derived.Test.YtepgpejdnlejnaaDoorItI
import Derived.Lib.ItoaLen
namespace Go.Proofs.YtepgpejdnlejnaaDoor
open Go.RowKit
set_option linter.unusedVariables false
set_option linter.unusedSimpArgs false
set_option linter.unusedSectionVars false
set_option maxRecDepth 100000
attribute [local go_sem] Oper.semAt_some

theorem str_info : ∃ i, Tryd.prog.info? 9 = some i ∧ i.zero = some (.string ⟨#[]⟩) ∧ i.size = 1 ∧ i.bytes = 16 := by
  have h : (Tryd.prog.info? 9).map (fun i => (i.zero, i.size, i.bytes)) = some (some (.string ⟨#[]⟩), 1, 16) := by kernel_rfl
  cases hq : Tryd.prog.info? 9 with
  | none => simp [hq] at h
  | some i => simp [hq] at h; exact ⟨i, rfl, h.1, h.2.1, h.2.2⟩
theorem own_ext {A B : World} {base : Nat} {e : TypeId} {size : Nat} {v : Value} {n : Nat} {xs : List Value} (h : A.ownsRow base e size v n xs) (hx : Ext A B) : B.ownsRow base e size v n xs := by
  refine ⟨h.1, ?_⟩
  rcases h.2 with h0 | ⟨g, cap, cur, hv, hb, hg, rest⟩
  · exact .inl h0
  · exact .inr ⟨g, cap, cur, hv, hb, hx.heap hg, rest⟩
def wrS (x : Vl) : ByteArray := ⟨(wrL x).toArray⟩
def wrVs (l : List Vl) : List Value := l.map fun x => .string (wrS x)
def textL (l : List Vl) : List UInt8 := if rowB l = true then Lib.join (l.map wrL) [44] else []
theorem wrL_le {x : Vl} (h : valB x = true) : (wrL x).length ≤ 200 := by
  unfold wrL
  unfold valB at h
  split
  · next hk =>
    rw [if_pos hk] at h
    simp [withinB] at h
    have := Lib.itoa_length_le x.2.1 (by omega) (by omega)
    omega
  · next hk =>
    rw [if_neg hk] at h
    have h := of_decide_eq_true h
    have := escA_le x.2.2 x.2.2.size
    simp only [List.length_append, List.length_cons, List.length_nil]
    omega
theorem valB_in {x : Vl} (h : valB x = true) : (-9223372036854775808 ≤ x.2.1 ∧ x.2.1 ≤ 9223372036854775807) ∧ x.2.2.size ≤ 1000 := by
  unfold valB at h
  split at h
  · unfold withinB at h
    rw [Bool.and_eq_true, decide_eq_true_eq, decide_eq_true_eq] at h
    omega
  · have h := of_decide_eq_true h
    omega
theorem join_le (sep : List UInt8) (m : Nat) : ∀ (l : List (List UInt8)), (∀ x ∈ l, x.length ≤ m) → (Lib.join l sep).length ≤ l.length * (m + sep.length)
  | [], _ => by simp [Lib.join_nil]
  | x :: r, h => by
    rw [Lib.join_cons, List.length_append]
    have h1 := h x (by simp)
    have : ∀ (r : List (List UInt8)), (∀ x ∈ r, x.length ≤ m) → (Lib.joinTail sep r).length ≤ r.length * (m + sep.length) := by
      intro r
      induction r with
      | nil => intro _; simp [Lib.joinTail]
      | cons y r ih =>
        intro hy
        have h2 := hy y (by simp)
        have := ih (fun z hz => hy z (by simp [hz]))
        unfold Lib.joinTail at *
        simp only [List.map_cons, List.flatten_cons, List.length_append, List.length_cons]
        rw [Nat.add_mul]
        omega
    have := this r (fun z hz => h z (by simp [hz]))
    simp only [List.length_cons]
    rw [Nat.add_mul]
    omega

set_option maxHeartbeats 4000000 in
theorem text_any (P : Option Addr) (cap : Nat) (l : List Vl) (w : World) (h : SlV w P cap l) (ht : Tab w) :
    Calls Tryd.prog 44 #[.slice P l.length cap] w fun e w' => e = .returned (.string ⟨(textL l).toArray⟩) ∧ Ext w w' := by
  have hlen := h.len
  have hR := row_any P cap l w h
  obtain ⟨i0, hi, hz0, hz1, hz2⟩ := str_info
  cases hr : rowB l with
  | false =>
    have HB := Lib.hid (show textL l = [] from by simp [textL, hr])
    simp only [hr] at hR
    clear hr
    go_enter Tryd.func44, Tryd.ntmps44
    go_wp2_with (go_at_call 18; refine hR.mono ?_; rintro e w1 ⟨rfl, hx1⟩)
    go_ret
    exact ⟨by rw [HB.out]; rfl, hx1⟩
  | true =>
    have HB := Lib.hid (show textL l = Lib.join (l.map wrL) [44] from by simp [textL, hr])
    simp only [hr] at hR
    have h8 : l.length ≤ 8 := by unfold rowB at hr; simp at hr; exact hr.2
    have hall : ∀ x ∈ l, valB x = true := by unfold rowB at hr; simp at hr; intro x hx; exact hr.1 _ _ _ hx
    clear hr
    go_enter Tryd.func44, Tryd.ntmps44
    go_wp2_with (go_at_call 18; refine hR.mono ?_; rintro e w1 ⟨rfl, hx1⟩)
    go_loopw [11, 3, 5] (fun i v _ wr => ∃ k : Nat, k ≤ l.length ∧ i = .int .i64 k ∧ wr.ownsRow w.heap.size 9 1 v k (wrVs (l.take k)) ∧ Ext w wr) (fun i _ _ _ => l.length - (intOf i).toNat)
    case atStart => exact ⟨0, by omega, rfl, World.ownsRow_nil _ _ _ _, hx1⟩
    case round =>
      obtain ⟨k, hk, rfl, hown, hx⟩ := hrel
      by_cases hlt : k < l.length
      · obtain ⟨b, off, hP, g0, g1, g2⟩ := h.valAt k hlt
        subst hP
        have g0 := hx.cell g0
        have g1 := hx.cell g1
        have g2 := hx.cell g2
        have c1 : (k : Int) < l.length := by omega
        have d1 : IntKind.i64.wrap ((k : Int) + 1) = (k : Int) + 1 := IntWalk.i64_in _ ⟨by omega, by omega⟩
        have hv := valB_in (hall _ (nthV_mem hlt))
        have hs : wrVs (l.take (k + 1)) = wrVs (l.take k) ++ [.string (wrS (nthV l k))] := by
          unfold wrVs
          rw [List.take_add_one, nthV_some hlt]
          simp
        have Hs := Lib.hid hs
        have hW := fun W hx => written_any (nthV l k) W (Tab.ext ht hx) hv.1 hv.2
        unfold Vl.v at hW
        have hwr : (⟨(wrL (nthV l k)).toArray⟩ : ByteArray) = wrS (nthV l k) := rfl
        rw [hwr] at hW
        generalize wrS (nthV l k) = y at *
        generalize nthV l k = x at *
        clear hs hv hwr
        go_wp2_with (first
          | (go_at_call 75; refine (hW _ (hx.alloc _)).mono ?_; rintro e w2 ⟨rfl, hx2⟩)
          | (at_builtin; refine wpList_append_own _ rfl _ _ 41 rfl w.heap.size 9 i0 (.string ⟨#[]⟩) 1 16 Tryd.underlying41 hi hz0 hz1 hz2 rfl (by decide) _ _ _ rfl (own_ext hown ((((Ext.refl wr).alloc _).trans hx2).alloc _)) ⟨w2.heap.size, 0, none⟩ 1 1 [.string y] rfl rfl ?c1 ?c2 ?c3 ?c4 ?c5 ?_))
        case c1 =>
          intro j u hj
          match j, hj with
          | 0, hj => simp at hj; subst hj; simp [Addr.add]
        case c2 => intro u hu; simp at hu; subst hu; rfl
        case c3 => unfold maxLen; omega
        case c4 => omega
        case c5 => have := hx.size; have := hx2.size; simp at this; simp; omega
        intro v' w3 hown' hgrow hne
        go_wp2
        go_roundw
        case rel => exact ⟨k + 1, by omega, by go_num, by rw [Hs.out]; exact hown', Below.grown ((hx.alloc _).trans hx2 |>.alloc _) hgrow (by have := hx.size; have := hx2.size; simp at this; simp; omega) (fun j hj => (hown.lt j hj).1)⟩
        case measure => simp [intOf]; omega
      · obtain rfl : k = l.length := by omega
        rw [List.take_length] at hown
        have hlt2 : (Lib.join (l.map wrL) [44]).length ≤ 140737488355328 := by
          have := join_le [44] 200 (l.map wrL) (by
            intro x hx
            obtain ⟨y, hy, rfl⟩ := List.mem_map.1 hx
            exact wrL_le (hall y hy))
          rw [List.length_map] at this
          have h2 : l.length * (200 + [44].length) ≤ 8 * 201 := Nat.mul_le_mul h8 (by simp)
          omega
        rcases hown.2 with ⟨rfl, hl0⟩ | ⟨g, c, cur, rfl, hgb, hg, hcl, hcm, hcs, htk⟩
        · obtain rfl := List.length_eq_zero_iff.1 hl0
          go_wp2_with (go_at_call 76; refine (Tryd.strings_Join_none _ _ _ _).mono ?_; rintro e w2 ⟨rfl, rfl⟩)
          go_ret
          exact ⟨by rw [HB.out]; rfl, hx⟩
        · have hJ := Tryd.strings_Join g 0 c (l.map wrS) ⟨#[44]⟩ wr (fun j x hj => by
            have := hown.cells (g := g) rfl j (.string x) (by
              unfold wrVs
              rw [List.getElem?_map] at hj ⊢
              cases hq : l[j]? with
              | none => rw [hq] at hj; cases hj
              | some y => rw [hq] at hj; simp at hj; subst hj; rfl)
            cases j with
            | zero => simpa [Addr.add] using this
            | succ j => simpa [Addr.add] using this) (Array.getElem?_eq_some_iff.1 hg).1 (by rw [List.length_map]; omega) (by rw [List.length_map]; exact hcl) (by
              rw [List.map_map]
              exact hlt2)
          rw [List.length_map, List.map_map] at hJ
          rw [show ((fun x : ByteArray => x.data.toList) ∘ wrS) = wrL from by funext x; simp [wrS]] at hJ
          clear hown hall
          generalize Lib.join (l.map wrL) [44] = z at *
          go_wp2_with (go_at_call 76; refine hJ.mono ?_; rintro e w2 ⟨rfl, hx2⟩)
          go_ret
          exact ⟨by rw [HB.out]; rfl, hx.trans hx2⟩
end Go.Proofs.YtepgpejdnlejnaaDoor
