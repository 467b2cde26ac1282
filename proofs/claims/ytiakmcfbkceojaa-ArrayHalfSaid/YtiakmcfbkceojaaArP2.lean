/- Arrays: slices.Chunk; Pack of the program. -/
import Derived.Test.YtiakmcfbkceojaaArP1
import Derived.Test.YtiakmcfbkceojaaHeld
import Derived.Stop.RegionWithIn
import Derived.Sort.QuietIn
namespace Go.Proofs.Ytiakmcfbkceojaa
open Go.RowKit Go.Maps
set_option linter.unusedVariables false
set_option linter.unusedSimpArgs false
set_option maxRecDepth 20000
attribute [local go_sem] Oper.semAt_some

theorem chunk_any (P : Option Addr) (m cap : Nat) (n : Nat) (hn : 0 < n) (hn2 : n ≤ 1000) (w : World) : Calls Try.prog 51 #[.slice P m cap, .int .i64 n] w fun e w' =>
    e = .returned (.func (.func 66) #[] #[.pointer (some ⟨w.heap.size, 0, none⟩), .pointer (some ⟨w.heap.size + 1, 0, none⟩)]) ∧ w' = (w.alloc (.cells #[.slice P m cap] 22)).alloc (.cells #[.int .i64 n] 3) := by
  have c1 : ¬ (n : Int) < 1 := by omega
  go_enter Try.func51, Try.ntmps51
  go_wp2
  go_ret
  exact ⟨rfl, rfl⟩
/-- piece j, as a value -/
def pieceV (F : List Int) (n bb off j : Nat) : Value := .slice (some ⟨bb, off + j * n, none⟩) (min n (F.length - j * n)) (min n (F.length - j * n))
theorem slice_lhm (b off len c i j : Nat) (hij : i < j) (hj : j ≤ c) (T : TypeId) (hT : Try.prog.underlying T = some (.slice (Try.prog.elem T))) (hs : (Try.prog.info? (Try.prog.elem T)).map (·.size) = some 1) :
    ∀ w, (Instr.slice T (.slice (some ⟨b, off, none⟩) len c) (some (.int .i64 i)) (some (.int .i64 j)) (some (.int .i64 j))).run Try.prog w = .ok (.slice (some ⟨b, off + i, none⟩) (j - i) (j - i)) w := by
  intro w
  rw [run_slice_lhm (w := w) T (some ⟨b, off, none⟩) len c hT .i64 .i64 .i64 i j j (by omega) (by omega) (by omega) (by omega)]
  cases hq : Try.prog.info? (Try.prog.elem T) with
  | none => simp [hq] at hs
  | some x =>
    have hx : x.size = 1 := by simpa [hq] using hs
    simp [sizeOf, typeInfo, hq, hx, sliced, Result.andThen, show ¬ j = i by omega, Go.WideShapes.add_plain]

set_option maxHeartbeats 4000000 in
theorem chunk_seq (c1 c2 : Nat) (P : Option Addr) (bb off cap : Nat) (F : List Int) (hP : F.length ≠ 0 → P = some ⟨bb, off, none⟩) (n : Nat) (hn : 0 < n) (hn2 : n ≤ 1000) (hF : F.length ≤ 1000) (hFc : F.length ≤ cap) (hcm : cap ≤ 9223372036854775807) :
    SeqP Try.prog 66 #[.pointer (some ⟨c1, 0, none⟩), .pointer (some ⟨c2, 0, none⟩)] (fun j => #[pieceV F n bb off j]) (chunkM F n)
      (fun W => W.cell? ⟨c1, 0, none⟩ = some (.slice P F.length cap) ∧ W.cell? ⟨c2, 0, none⟩ = some (.int .i64 n)) := by
  intro l J Jx Jp W hJ hJx hK hY h0
  refine callsIn_of_wp Try.func66 rfl trivial ?_ rfl
  simp only [Try.ntmps66, List.size_toArray, List.length_cons, List.length_nil, Nat.reduceAdd, Nat.reduceSub, Array.replicate_succ, Array.replicate_zero, List.push_toArray, List.append_toArray, List.nil_append, List.cons_append]
  gi_wp2
  gi_loopw [4] (fun i wr => ∃ k : Nat, k ≤ chunkM F n ∧ i = .int .i64 ((k * n : Nat) : Int) ∧ J k wr) (fun i _ => F.length - (intOf i).toNat)
  case atStart => exact ⟨0, by omega, by simp, h0⟩
  case round =>
    obtain ⟨k, hk, rfl, hj⟩ := hrel
    obtain ⟨g1, g2⟩ := hK _ _ hj
    obtain ⟨i, hi⟩ : ∃ i, k * n = i := ⟨_, rfl⟩
    have Hi := Lib.hid hi
    by_cases hlt : k < chunkM F n
    · have hkn := (chunkM_lt hn).1 hlt
      have hPs := hP (by omega)
      subst hPs
      rw [hi] at hkn ⊢
      have Hi2 : Hid ((k + 1) * n = i + n) := Lib.hid (by rw [Nat.succ_mul, hi])
      have w3 : IntKind.i64.wrap ((i : Int) + n) = (i : Int) + n := IntWalk.i64_in _ ⟨by omega, by omega⟩
      have q1 : (i : Int) < F.length := by omega
      have sx := slice_from bb off F.length cap i (by omega) hFc 22 (by kernel_rfl) (by kernel_rfl)
      rw [if_neg (by omega)] at sx
      have hyld := hY k
      unfold pieceV at hyld
      rw [hi] at hyld
      clear hi
      rcases Nat.lt_or_ge F.length (i + n) with hAB | hAB
      · have sl := slice_lhm bb off F.length cap i F.length (by omega) (by omega) 22 (by kernel_rfl) (by kernel_rfl)
        have e1 : min n (F.length - i) = F.length - i := by omega
        have m1 : ¬ ((n : Int) ≤ ((F.length - i : Nat) : Int)) := by omega
        have m2 : ((F.length - i : Nat) : Int) < n := by omega
        have w4 : IntKind.i64.wrap ((i : Int) + ((F.length - i : Nat) : Int)) = (F.length : Int) := by rw [IntWalk.i64_in _ ⟨by omega, by omega⟩]; omega
        rw [e1] at hyld
        clear hAB e1
        gi_wp2
        refine wpIn_wide.2 ?_
        go_quiet (fail)
        have hj2 := hJ _ _ _ hj ((Ext.refl wr).drewN nq)
        clear hj g1 g2
        generalize wr.drewN nq = W7 at *
        obtain ⟨g1, g2⟩ := hK _ _ hj2
        obtain ⟨fn, tmps, assign, body, hy, hR⟩ := hyld _ hj2 hlt
        gi_wp2_with fail
        refine ⟨rfl, ?_⟩
        refine hR.mono ?_
        intro e W3 h3
        rcases yield_two h3 with ⟨ch, rfl, hp3⟩ | ⟨t, rfl, h4⟩
        · exact ⟨rfl, .inr ⟨_, ch, hlt, rfl, hp3⟩⟩
        · clear h3
          rcases h4 with ⟨rfl, hj3⟩ | ⟨rfl, hx3⟩
          · obtain ⟨g3, g4⟩ := hK _ _ hj3
            gi_wp2
            go_roundw
            case rel => exact ⟨k + 1, by omega, by rw [Hi2.out]; go_num, hj3⟩
            case measure => simp [intOf]; omega
          · gi_wp2
            refine bodyPost_ret (results_none rfl _ _ _) rfl ?_
            exact .inl ⟨⟨_, rfl⟩, .inr ⟨_, hlt, hx3⟩⟩
      · have sl := slice_lhm bb off F.length cap i (i + n) (by omega) (by omega) 22 (by kernel_rfl) (by kernel_rfl)
        rw [Nat.add_sub_cancel_left, Int.natCast_add] at sl
        have e1 : min n (F.length - i) = n := by omega
        have m1 : (n : Int) ≤ ((F.length - i : Nat) : Int) := by omega
        have m2 : ¬ (((F.length - i : Nat) : Int) < n) := by omega
        rw [e1] at hyld
        clear hAB e1
        gi_wp2
        refine wpIn_wide.2 ?_
        go_quiet (fail)
        have hj2 := hJ _ _ _ hj ((Ext.refl wr).drewN nq)
        clear hj g1 g2
        generalize wr.drewN nq = W7 at *
        obtain ⟨g1, g2⟩ := hK _ _ hj2
        obtain ⟨fn, tmps, assign, body, hy, hR⟩ := hyld _ hj2 hlt
        gi_wp2_with fail
        refine ⟨rfl, ?_⟩
        refine hR.mono ?_
        intro e W3 h3
        rcases yield_two h3 with ⟨ch, rfl, hp3⟩ | ⟨t, rfl, h4⟩
        · exact ⟨rfl, .inr ⟨_, ch, hlt, rfl, hp3⟩⟩
        · clear h3
          rcases h4 with ⟨rfl, hj3⟩ | ⟨rfl, hx3⟩
          · obtain ⟨g3, g4⟩ := hK _ _ hj3
            gi_wp2
            go_roundw
            case rel => exact ⟨k + 1, by omega, by rw [Hi2.out]; go_num, hj3⟩
            case measure => simp [intOf]; omega
          · gi_wp2
            refine bodyPost_ret (results_none rfl _ _ _) rfl ?_
            exact .inl ⟨⟨_, rfl⟩, .inr ⟨_, hlt, hx3⟩⟩
    · obtain rfl : k = chunkM F n := by omega
      have hge : ¬ (chunkM F n * n < F.length) := fun hh => hlt ((chunkM_lt hn).2 hh)
      rw [hi] at hge ⊢
      have q1 : ¬ (i : Int) < F.length := by omega
      clear hi hge
      gi_wp2
      go_end0
      exact .inl ⟨⟨_, rfl⟩, .inl hj⟩
end Go.Proofs.Ytiakmcfbkceojaa
