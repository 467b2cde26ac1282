/- The iterator page.slots: its contract. -/
import Derived.Test.YtnileonlabpbpaaPageA
import Derived.Test.YtnileonlabpbpaaRange
import Derived.Stop.RegionWithIn
import Derived.Sort.QuietIn
namespace Go.Proofs.Ytnileonlabpbpaa
open Go.RowKit
set_option linter.unusedVariables false
set_option maxRecDepth 20000
attribute [local go_sem] Oper.semAt_some

/-- slot i of a page, as a value -/
def slotV (p : ByteArray) (i : Nat) : Value := .agg #[.int .i64 ((i : Int) + 1), .int .i64 (twoF p (2 + 4 * i)), .int .i64 (twoF p (4 + 4 * i))]

theorem slots_any (p : ByteArray) (w : World) :
    Calls Try.prog 53 #[.string p] w fun e w' => e = .returned (.func (.func 65) #[] #[.pointer (some ⟨w.heap.size, 0, none⟩)]) ∧ w' = w.alloc (.cells #[.string p] 9) := by
  go_enter Try.func53, Try.ntmps53
  go_wp2
  go_ret
  exact ⟨rfl, rfl⟩

theorem two_at (p : ByteArray) (x : Int) (i : Nat) (w : World) (hx : x = i) (hp : p.size ≤ 140737488355328) (hi : i + 1 < p.size) :
    Calls Try.prog 52 #[.string p, .int .i64 x] w fun e w' => e = .returned (.int .i64 (twoF p i)) ∧ Ext w w' := by
  subst hx
  exact (two_any p i w hp hi).mono fun e w' ⟨he, n, hw⟩ => ⟨he, hw ▸ (Ext.refl w).drewN n⟩

theorem yield_cases {e : Ending} {A B : Prop} {C : List PanicEntry → Prop} (h : (e = .returned (.bool true) ∧ A) ∨ (e = .returned (.bool false) ∧ B) ∨ ∃ ch, e = .panicked ch ∧ C ch) :
    (∃ ch, e = .panicked ch ∧ C ch) ∨ ∃ t, e = .returned (.bool t) ∧ (t = true ∧ A ∨ t = false ∧ B) := by
  rcases h with ⟨h, a⟩ | ⟨h, b⟩ | h
  · exact .inr ⟨true, h, .inl ⟨rfl, a⟩⟩
  · exact .inr ⟨false, h, .inr ⟨rfl, b⟩⟩
  · exact .inl h

theorem slots_seq (p : ByteArray) (c : Nat) (hp : p.size ≤ 140737488355328) (h2 : 1 < p.size) (hN : 2 + 4 * twoF p 0 ≤ p.size) :
    SeqP Try.prog 65 #[.pointer (some ⟨c, 0, none⟩)] (fun i => #[slotV p i]) (twoF p 0) (fun A => A.cell? ⟨c, 0, none⟩ = some (.string p)) := by
  intro l J Jx Jp W hJ hJx hK hY h0
  have hc0 := hK 0 W h0
  refine callsIn_of_wp Try.func65 rfl trivial ?_ rfl
  simp only [Try.ntmps65, List.size_toArray, List.length_cons, List.length_nil, Nat.reduceAdd, Nat.reduceSub, Array.replicate_succ, Array.replicate_zero, List.push_toArray, List.append_toArray, List.nil_append, List.cons_append]
  gi_wp2_with (refine ⟨trivial, rfl, ?_⟩; gi_at_call 35; refine (callsIn_wide.2 (count_any p _ hp h2)).mono ?_; rintro e w' ⟨rfl, n0, rfl⟩)
  gi_loopw [7] (fun i wr => ∃ k : Nat, k ≤ twoF p 0 ∧ i = .int .i64 k ∧ J k wr) (fun i _ => twoF p 0 - (intOf i).toNat)
  case atStart => exact ⟨0, by omega, rfl, hJ _ _ _ h0 ((Ext.refl W).drewN n0)⟩
  case round =>
    obtain ⟨k, hk, rfl, hj⟩ := hrel
    by_cases hlt : k < twoF p 0
    · have hc := hK _ _ hj
      have hlen : (p.size : Int) ≤ 140737488355328 := by omega
      have hb : twoF p 0 < 65536 := by have := bt_lt p 0; have := bt_lt p (0 + 1); unfold twoF; omega
      have hx0 : Ext wr wr := Ext.refl wr
      have hw1 : IntKind.i64.wrap (2 + 4 * (k : Int) + 2) = 2 + 4 * k + 2 := IntWalk.i64_in _ ⟨by omega, by omega⟩
      have hw2 : IntKind.i64.wrap ((k : Int) + 1) = k + 1 := IntWalk.i64_in _ ⟨by omega, by omega⟩
      gi_wp2
      gi_region_with (first
        | (refine ⟨trivial, rfl, ?_⟩; gi_at_call 52; refine (callsIn_wide.2 (two_at p _ (2 + 4 * k) _ (by omega) hp (by omega))).mono ?_; rintro e w1 ⟨rfl, hx1⟩; have hc1 := hx1.cell (show World.cell? (World.drew wr) ⟨c, 0, none⟩ = some (.string p) from hc); have hj1 := hJ _ _ _ hj (Ext.trans hx0.drew hx1))
        | (refine ⟨trivial, rfl, ?_⟩; gi_at_call 52; refine (callsIn_wide.2 (two_at p _ (4 + 4 * k) _ (by omega) hp (by omega))).mono ?_; rintro e w2 ⟨rfl, hx2⟩; have hj2 := hJ _ _ _ hj1 hx2; obtain ⟨fn, tmps, assign, body, hy, hR⟩ := hY k w2 hj2 hlt; simp only [slotV] at hy)
        | (refine ⟨rfl, ?_⟩; refine hR.mono ?_; intro e W3 h3; rcases yield_cases h3 with ⟨ch, rfl, hp3⟩ | ⟨t, rfl, h4⟩; exact ⟨rfl, .inr ⟨k, ch, hlt, rfl, hp3⟩⟩; skip))
      all_goals (
        clear h3
        rcases h4 with ⟨rfl, hj3⟩ | ⟨rfl, hx3⟩
        · gi_wp2
          go_roundw
          case rel => exact ⟨k + 1, by omega, by go_num, hj3⟩
          case measure => simp [intOf]; omega
        · gi_wp2
          refine bodyPost_ret (results_none rfl _ _ _) rfl ?_
          exact .inl ⟨⟨_, rfl⟩, .inr ⟨k, hlt, hx3⟩⟩)
    · obtain rfl : k = twoF p 0 := by omega
      gi_wp2
      go_end0
      exact .inl ⟨⟨_, rfl⟩, .inl hj⟩
end Go.Proofs.Ytnileonlabpbpaa
