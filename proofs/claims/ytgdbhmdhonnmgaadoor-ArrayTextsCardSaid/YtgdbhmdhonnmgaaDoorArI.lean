/- Arrays: the iterator over all keys with their places. -/
import Derived.Test.YtgdbhmdhonnmgaaDoorArH
import Derived.Stop.RegionWithIn
import Derived.Sort.QuietIn
namespace Go.Proofs.YtgdbhmdhonnmgaaDoor
open Go.RowKit Go.Maps
set_option linter.unusedVariables false
set_option maxRecDepth 20000
set_option linter.unusedSimpArgs false
set_option maxRecDepth 20000
attribute [local go_sem] Oper.semAt_some

/-- key j with its place, as a value -/
def atV (LL : List (List Int)) (j : Nat) : Value := .agg #[.int .i64 j, .int .i64 ((locQ LL j).1 : Nat), .int .i64 ((locQ LL j).2 : Nat), .int .i64 (nthI LL.flatten j)]
theorem atV_at {LL : List (List Int)} {i k : Nat} (hi : i < LL.length) (hk : k < (nthA LL i).length) : atV LL (lenT LL i + k) = .agg #[.int .i64 ((lenT LL i : Int) + (k : Int)), .int .i64 i, .int .i64 k, .int .i64 (nthI (nthA LL i) k)] := by
  unfold atV
  have h1 := locQ_at LL i k hi hk
  have h2 := nthI_flat LL i k hi hk
  have e : (LL.take i).flatten.length = lenT LL i := rfl
  rw [e] at h1 h2
  rw [h1, h2]
  simp
theorem keys_any (P : Option Addr) (n cap : Nat) (w : World) :
    Calls Tryd.prog 40 #[.slice P n cap] w fun e w' => e = .returned (.func (.func 61) #[] #[.pointer (some ⟨w.heap.size, 0, none⟩)]) ∧ w' = w.alloc (.cells #[.slice P n cap] 22) := by
  go_enter Tryd.func40, Tryd.ntmps40
  go_wp2
  go_ret
  exact ⟨rfl, rfl⟩

theorem yield_two {e : Ending} {A B : Prop} {C : List PanicEntry → Prop} (h : (e = .returned (.bool true) ∧ A) ∨ (e = .returned (.bool false) ∧ B) ∨ ∃ ch, e = .panicked ch ∧ C ch) :
    (∃ ch, e = .panicked ch ∧ C ch) ∨ ∃ t, e = .returned (.bool t) ∧ (t = true ∧ A ∨ t = false ∧ B) := by
  rcases h with ⟨h, a⟩ | ⟨h, b⟩ | h
  · exact .inr ⟨true, h, .inl ⟨rfl, a⟩⟩
  · exact .inr ⟨false, h, .inr ⟨rfl, b⟩⟩
  · exact .inl h

set_option maxHeartbeats 4000000 in
theorem keys_seq (c : Nat) (P : Option Addr) (cap : Nat) (Q : Nat → Option Addr) (C : Nat → Nat) (LL : List (List Int)) (ht : LL.flatten.length ≤ 1000) (hle : LL.length ≤ 9223372036854775807) (hne : ∀ l ∈ LL, l ≠ []) :
    SeqP Tryd.prog 61 #[.pointer (some ⟨c, 0, none⟩)] (fun j => #[atV LL j]) LL.flatten.length
      (fun W => W.cell? ⟨c, 0, none⟩ = some (.slice P LL.length cap) ∧ SlA W P cap Q C LL) := by
  intro l J Jx Jp W hJ hJx hK hY h0
  obtain ⟨h1, h2⟩ := hK 0 W h0
  refine callsIn_of_wp Tryd.func61 rfl trivial ?_ rfl
  simp only [Tryd.ntmps61, List.size_toArray, List.length_cons, List.length_nil, Nat.reduceAdd, Nat.reduceSub, Array.replicate_succ, Array.replicate_zero, List.push_toArray, List.append_toArray, List.nil_append, List.cons_append]
  gi_wp2
  gi_loopw [10, 3] (fun i n wr => ∃ k : Nat, k ≤ LL.length ∧ i = .int .i64 k ∧ n = .int .i64 (lenT LL k) ∧ J (lenT LL k) wr) (fun i _ _ => LL.length - (intOf i).toNat)
  case atStart => exact ⟨0, by omega, rfl, rfl, h0⟩
  case round =>
    obtain ⟨i, hi, rfl, rfl, hj⟩ := hrel
    by_cases hlt : i < LL.length
    · obtain ⟨g1, g2⟩ := hK _ _ hj
      obtain ⟨bb, off, hP, hc⟩ := g2.at_ i hlt
      have hrl := g2.rowLen i hlt
      obtain ⟨b2, off2, hQ, _⟩ := (g2.row i hlt).at_ 0 (List.length_pos_iff.2 (hne _ (nthA_mem hlt)))
      rw [hQ] at hc
      have HQ := Lib.hid hQ
      clear hQ
      subst hP
      have c1 : (i : Int) < LL.length := by omega
      have Hend : Hid (lenT LL (i + 1) = lenT LL i + (nthA LL i).length) := Lib.hid (lenT_succ hlt)
      have hle1 := lenT_le LL (i + 1)
      rw [Hend.out] at hle1
      obtain ⟨wo, hwo⟩ : ∃ wo : World, wo = wr := ⟨_, rfl⟩
      subst hwo
      gi_wp2
      clear hc g1 g2
      gi_loopw [17, 3] (fun j n wr => ∃ k : Nat, k ≤ (nthA LL i).length ∧ j = .int .i64 k ∧ n = .int .i64 ((lenT LL i : Int) + (k : Int)) ∧ J (lenT LL i + k) wr) (fun j _ _ => (nthA LL i).length - (intOf j).toNat)
      case atStart => exact ⟨0, by omega, rfl, by simp, hj⟩
      case round =>
        obtain ⟨k, hk, rfl, rfl, hjk⟩ := hrel
        by_cases hkl : k < (nthA LL i).length
        · obtain ⟨g1, g2⟩ := hK _ _ hjk
          obtain ⟨b3, off3, hQ3, hck⟩ := (g2.row i hlt).at_ k hkl
          rw [HQ.out] at hQ3
          simp only [Option.some.injEq, Addr.mk.injEq, and_true] at hQ3
          obtain ⟨rfl, rfl⟩ := hQ3
          have c3 : (k : Int) < (nthA LL i).length := by omega
          have hj2 : lenT LL i + k < LL.flatten.length := by omega
          obtain ⟨fn, tmps, assign, body, hy, hR⟩ := hY _ wr hjk hj2
          rw [atV_at hlt hkl] at hy
          clear g1 g2
          gi_wp2_with fail
          refine ⟨rfl, ?_⟩
          refine hR.mono ?_
          intro e W3 h3
          rcases yield_two h3 with ⟨ch, rfl, hp3⟩ | ⟨t, rfl, h4⟩
          · exact ⟨rfl, .inr ⟨_, ch, hj2, rfl, hp3⟩⟩
          · clear h3
            rcases h4 with ⟨rfl, hj3⟩ | ⟨rfl, hx3⟩
            · gi_wp2
              go_roundw
              case rel => exact ⟨k + 1, by omega, by go_num, by go_num, hj3⟩
              case measure => simp [intOf]; omega
            · gi_wp2
              refine bodyPost_ret (results_none rfl _ _ _) rfl ?_
              exact .inl ⟨⟨_, rfl⟩, .inr ⟨_, hj2, hx3⟩⟩
        · obtain rfl : k = (nthA LL i).length := by omega
          rw [← Hend.out] at hjk
          gi_wp2
          go_roundw
          case rel => exact ⟨i + 1, by omega, by go_num, by rw [Hend.out]; go_num, hjk⟩
          case measure => simp [intOf]; omega
    · obtain rfl : i = LL.length := by omega
      rw [lenT_end] at hj
      gi_wp2
      go_end0
      exact .inl ⟨⟨_, rfl⟩, .inl hj⟩
end Go.Proofs.YtgdbhmdhonnmgaaDoor
