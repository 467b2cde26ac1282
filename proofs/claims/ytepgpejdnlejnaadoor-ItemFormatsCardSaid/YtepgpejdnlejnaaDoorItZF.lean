/- strings.SplitSeq at "; ": the walk. -/
import Derived.Test.YtepgpejdnlejnaaDoorItZE
namespace Go.Proofs.YtepgpejdnlejnaaDoor
open Go.RowKit
set_option linter.unusedVariables false
set_option linter.unusedSimpArgs false
set_option linter.unusedSectionVars false
set_option maxRecDepth 100000
attribute [local go_sem] Oper.semAt_some

theorem splitseq_any (s : ByteArray) (w : World) :
    Calls Tryd.prog 84 #[.string s, .string ⟨#[59, 32]⟩] w fun e w' => e = .returned (.func (.func 118) #[] #[.pointer (some ⟨w.heap.size + 1, 0, none⟩), .pointer (some ⟨w.heap.size, 0, none⟩), .pointer (some ⟨w.heap.size + 2, 0, none⟩)]) ∧
      w' = ((w.alloc (.cells #[.string s] 9)).alloc (.cells #[.string ⟨#[59, 32]⟩] 9)).alloc (.cells #[.int .i64 0] 3) := by
  have hmf : ∀ (fn : Fn) (first cap : Array Value) (w : World), (Instr.makeFunc fn first cap).run Tryd.prog w = .ok (.func fn first cap) w := fun _ _ _ _ => rfl
  have hI : Calls Tryd.prog 108 #[.string s, .string ⟨#[59, 32]⟩, .int .i64 0] w fun e w' => e = .returned (.func (.func 118) #[] #[.pointer (some ⟨w.heap.size + 1, 0, none⟩), .pointer (some ⟨w.heap.size, 0, none⟩), .pointer (some ⟨w.heap.size + 2, 0, none⟩)]) ∧
      w' = ((w.alloc (.cells #[.string s] 9)).alloc (.cells #[.string ⟨#[59, 32]⟩] 9)).alloc (.cells #[.int .i64 0] 3) := by
    go_enter Tryd.func108, Tryd.ntmps108
    go_wp2
    go_ret
    exact ⟨rfl, rfl⟩
  go_enter Tryd.func84, Tryd.ntmps84
  go_wp2_with (go_at_call 108; refine hI.mono ?_; rintro e w1 ⟨rfl, rfl⟩)
  go_ret
  exact ⟨rfl, rfl⟩
/-- what the iterator reads beside its own cell -/
def SepK (c : Nat) (A : World) : Prop := A.cell? ⟨c + 1, 0, none⟩ = some (.string ⟨#[59, 32]⟩) ∧ A.cell? ⟨c + 2, 0, none⟩ = some (.int .i64 0) ∧ ∃ m, A.cell? ⟨2, 0, none⟩ = some (.int .i64 m)
theorem box_cell {W : World} {c : Nat} {v : Value} {t : TypeId} (h : W.heap[c]? = some (.cells #[v] t (0, 0))) : W.cell? ⟨c, 0, none⟩ = some v := by simp [World.cell?, h]
theorem box_frozen {W : World} {c : Nat} {v : Value} {t : TypeId} (h : W.heap[c]? = some (.cells #[v] t (0, 0))) : W.frozen? ⟨c, 0, none⟩ = false := by simp [World.frozen?, h]
theorem yieldb_cases {e : Ending} {A B : Prop} {C : List PanicEntry → Prop} (h : (e = .returned (.bool true) ∧ A) ∨ (e = .returned (.bool false) ∧ B) ∨ ∃ ch, e = .panicked ch ∧ C ch) :
    (∃ ch, e = .panicked ch ∧ C ch) ∨ ∃ t, e = .returned (.bool t) ∧ (t = true ∧ A ∨ t = false ∧ B) := by
  rcases h with ⟨h, a⟩ | ⟨h, b⟩ | h
  · exact .inr ⟨true, h, .inl ⟨rfl, a⟩⟩
  · exact .inr ⟨false, h, .inr ⟨rfl, b⟩⟩
  · exact .inl h
set_option maxHeartbeats 8000000 in
theorem splitseq_seq (s : ByteArray) (c : Nat) (hp : s.size ≤ 1000000) :
    SeqK Tryd.prog 118 #[.pointer (some ⟨c + 1, 0, none⟩), .pointer (some ⟨c, 0, none⟩), .pointer (some ⟨c + 2, 0, none⟩)] (fun i => #[partV s i]) (cutS s.data.toList).length c 9 (leftV s) (SepK c) := by
  intro l JA JB Jx Jp W hJA hJB hJx hK hS hKA hKB hY h0
  have hJK := hK
  have hN : 0 < (cutS s.data.toList).length := by
    cases hq : cutS s.data.toList with
    | nil => exact absurd hq (cutS_ne _)
    | cons x l => simp
  have hb0 : JB 0 W := by
    have h1 := hS 0 W hN h0
    rw [setCell_same (show Boxed W c 9 (leftV s 1) from hK 0 W h0)] at h1
    exact h1
  obtain ⟨⟨k1, k2, m, k3⟩, kb⟩ := hKB 0 W hb0
  refine callsIn_of_wp Tryd.func118 rfl trivial ?_ rfl
  simp only [Tryd.ntmps118, List.size_toArray, List.length_cons, List.length_nil, Nat.reduceAdd, Nat.reduceSub, Array.replicate_succ, Array.replicate_zero, List.push_toArray, List.append_toArray, List.nil_append, List.cons_append]
  gi_wp2
  clear k1 k2 k3 kb
  gi_loopg [7, 8] (cutS s.data.toList).length (fun k _ _ wr => ∃ j : Nat, k + j = (cutS s.data.toList).length ∧ j < (cutS s.data.toList).length ∧ JB j wr)
  case atStart => exact ⟨0, by omega, hN, hb0⟩
  case round =>
    obtain ⟨j, hk, hlt, hj⟩ := hrel
    obtain ⟨⟨k1, k2, m, k3⟩, kb⟩ := hKB j wr hj
    have kf := box_frozen kb
    have hY1 := fun A hA => hY j A hA hlt
    have hlen := rest_len s.data.toList j
    have hsz : s.data.toList.length = s.size := by simp
    have hz : (mkB (restS s.data.toList j)).size ≤ 1000000 := by rw [mkB_size]; omega
    have hI := fun W hm => Tryd.strings_Index (mkB (restS s.data.toList j)) ⟨#[59, 32]⟩ m W (by omega) hm
    rw [mkB_toList] at hI
    rw [show (⟨#[59, 32]⟩ : ByteArray).data.toList = [59, 32] from rfl, index_first] at hI
    have kc : wr.cell? ⟨c, 0, none⟩ = some (.string (mkB (restS s.data.toList j))) := box_cell kb
    simp only [partV] at hY1
    rcases part_at s.data.toList j hlt with ⟨hf, hlast, hpt⟩ | ⟨a, r, hf, hnext, hpt, hrs⟩
    · rw [hf] at hI
      rw [hpt] at hY1
      simp only at hI
      have HJ := Lib.hid hlast
      clear hf hpt hlen hsz hlast hk
      obtain ⟨R, hRR⟩ : ∃ R, mkB (restS s.data.toList j) = R := ⟨_, rfl⟩
      rw [hRR] at kc hz
      simp only [hRR] at hI hY1
      clear hRR kb
      obtain ⟨fn, tmps, assign, body, hy, hR⟩ := hY1 _ hj
      gi_wp2_with (refine ⟨trivial, rfl, ?_⟩; refine (callsIn_wide.2 (hI _ k3)).mono ?_; rintro e w5 ⟨rfl, h5⟩; subst h5)
      refine ⟨rfl, ?_⟩
      refine hR.mono ?_
      intro e W3 h3
      rcases yieldb_cases h3 with ⟨ch, rfl, hp3⟩ | ⟨t, rfl, h4⟩
      · exact ⟨rfl, .inr ⟨j, ch, hlt, rfl, hp3⟩⟩
      · clear h3
        gi_wp2
        go_end0
        rcases h4 with ⟨rfl, hj3⟩ | ⟨rfl, hx3⟩
        · rw [HJ.out] at hj3
          exact .inl ⟨⟨_, rfl⟩, .inl hj3⟩
        · exact .inl ⟨⟨_, rfl⟩, .inr ⟨j, hlt, hx3⟩⟩
    · rw [hf] at hI
      rw [hpt] at hY1
      simp only at hI
      have ha := first_app hf
      obtain ⟨gp, rfl⟩ : ∃ gp, gk = gp + 1 := ⟨gk - 1, by omega⟩
      have HGK := Lib.hid hk
      have HN := Lib.hid hnext
      have hS1 := fun A hA => hS (j + 1) A hnext hA
      have hcs : leftV s (j + 1 + 1) = .string (mkB r) := by show Value.string (mkB (restS s.data.toList (j + 1))) = _; rw [hrs]
      rw [hcs] at hS1
      have hle : a.length + 2 + r.length ≤ 1000000 := by
        rw [ha] at hlen
        simp at hlen
        omega
      have s1 := fun w => str_to (mkB (restS s.data.toList j)) a.length (by rw [mkB_size, ha]; simp) w
      have s2 := fun w => str_from (mkB (restS s.data.toList j)) (a.length + 2) (by rw [mkB_size, ha]; simp) w
      have t1 : (mkB (restS s.data.toList j)).data.toList.take a.length = a := by rw [mkB_toList, ha]; simp
      have t2 : (mkB (restS s.data.toList j)).data.toList.drop (a.length + 2) = r := by rw [mkB_toList, ha, List.drop_append]; simp
      rw [t1] at s1
      rw [t2] at s2
      obtain ⟨R, hRR⟩ : ∃ R, mkB (restS s.data.toList j) = R := ⟨_, rfl⟩
      rw [hRR] at kc hz
      simp only [hRR] at hI s1 s2
      have kcn : ∀ A, JA (j + 1) A → A.cell? ⟨c, 0, none⟩ = some (.string R) := fun A hA => by
        have := box_cell (hJK _ _ hA)
        rw [this, ← hRR]
        rfl
      clear hRR kb t1 t2 hpt hrs hf ha hlen hsz hnext hcs
      generalize mkB a = L at *
      generalize mkB r = R2 at *
      obtain ⟨m2, hm2⟩ : ∃ m2, a.length + 2 = m2 := ⟨_, rfl⟩
      rw [hm2] at s2 hle
      have hd : IntKind.i64.wrap ((a.length : Int) + 2) = (m2 : Int) := (IntWalk.i64_in _ ⟨by omega, by omega⟩).trans (by omega)
      have hd0 : IntKind.i64.wrap (a.length : Int) = (a.length : Int) := (IntWalk.i64_in _ ⟨by omega, by omega⟩).trans (by omega)
      have hp0 : ¬ (a.length : Int) < 0 := by omega
      clear hm2 hle
      generalize a.length = n at *
      obtain ⟨fn, tmps, assign, body, hy, hR⟩ := hY1 _ hj
      gi_wp2_with (refine ⟨trivial, rfl, ?_⟩; refine (callsIn_wide.2 (hI _ k3)).mono ?_; rintro e w5 ⟨rfl, h5⟩; subst h5)
      refine ⟨rfl, ?_⟩
      refine hR.mono ?_
      intro e W3 h3
      rcases yieldb_cases h3 with ⟨ch, rfl, hp3⟩ | ⟨t, rfl, h4⟩
      · exact ⟨rfl, .inr ⟨j, ch, hlt, rfl, hp3⟩⟩
      · clear h3
        rcases h4 with ⟨rfl, hj3⟩ | ⟨rfl, hx3⟩
        · have kc3 := kcn _ hj3
          have kf3 := box_frozen (hJK _ _ hj3)
          obtain ⟨k31, k32, m3, k33⟩ := hKA _ _ hj3
          have hS3 := hS1 _ hj3
          clear k1 k2 k3 kc kf kcn hj
          gi_wp2
          gi_roundg gp
          case measure => omega
          case rel => exact ⟨j + 1, by have := HGK.out; omega, HN.out, hS3⟩
        · gi_wp2
          refine bodyPost_ret (results_none rfl _ _ _) rfl ?_
          exact .inl ⟨⟨_, rfl⟩, .inr ⟨j, hlt, hx3⟩⟩
end Go.Proofs.YtepgpejdnlejnaaDoor
