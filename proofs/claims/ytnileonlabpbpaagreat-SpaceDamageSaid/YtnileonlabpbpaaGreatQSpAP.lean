/- Areas: Acts, and the law SpacePlays. -/
import Derived.Test.YtnileonlabpbpaaGreatQSpAO
namespace Go.Proofs.YtnileonlabpbpaaGreat
open Go.RowKit
set_option linter.unusedVariables false
set_option linter.unusedSimpArgs false
set_option linter.unusedSectionVars false
set_option maxRecDepth 20000

/-- how Acts ends -/
def ActsPost (n : Nat) (e : Ending) : Prop := ∃ b, e = .returned (.bool b) ∧ (b = true → n ≤ 40)
set_option maxHeartbeats 1000000 in
theorem acts_any (size pages : Int) (PL : Option Addr) (capL : Nat) (L : List AcS) (w : World) (hL : SlG csAc w PL capL L) :
    Calls Tryz.prog 8 #[.int .i64 size, .int .i64 pages, .slice PL L.length capL] w fun e w' => ActsPost L.length e ∧ Ext w w' := by
  have hlen := hL.len
  go_enter Tryz.func8, Tryz.ntmps8
  go_wp2
  go_loopw [7, 8] (fun n i wr => ∃ (k : Nat) (m : Int), k ≤ L.length ∧ i = .int .i64 k ∧ n = .int .i64 m ∧ Ext w wr) (fun _ i _ => L.length - (intOf i).toNat)
  case atStart => exact ⟨0, 0, by omega, rfl, rfl, Ext.refl w⟩
  case round =>
    obtain ⟨k, m, hk, rfl, rfl, hx⟩ := hrel
    by_cases hlt : k < L.length
    · obtain ⟨x, hxk⟩ : ∃ x, L[k]? = some x := ⟨L[k], List.getElem?_eq_getElem hlt⟩
      obtain ⟨bL, offL, rfl, hcL⟩ := hL.at_ k x hxk
      have q5 := hx.cell (hcL 5 _ rfl)
      simp only [List.length_cons, List.length_nil, Nat.reduceAdd] at q5
      have c1 : (k : Int) < L.length := by omega
      have k1 : IntKind.i64.wrap ((k : Int) + 1) = k + 1 := IntWalk.i64_in _ ⟨by omega, by omega⟩
      clear hcL
      go_wp2
      exact ⟨⟨k + 1, _, by omega, by go_num, rfl, hx⟩, by simp [intOf]; omega⟩
    · obtain rfl : k = L.length := by omega
      by_cases h1 : L.length ≤ 40
      · have c1 : (L.length : Int) ≤ 40 := by omega
        by_cases h2 : m ≤ 4000
        · by_cases h3 : size ≤ 512
          · by_cases h4 : pages ≤ 20
            · go_wp2
              go_ret
              exact ⟨⟨_, rfl, fun _ => h1⟩, hx⟩
            · go_wp2
              go_ret
              exact ⟨⟨_, rfl, fun _ => h1⟩, hx⟩
          · go_wp2
            go_ret
            exact ⟨⟨_, rfl, fun _ => h1⟩, hx⟩
        · go_wp2
          go_ret
          exact ⟨⟨_, rfl, fun _ => h1⟩, hx⟩
      · have c1 : ¬ (L.length : Int) ≤ 40 := by omega
        go_wp2
        go_ret
        exact ⟨⟨_, rfl, fun h => by cases h⟩, hx⟩
theorem played_field (pa sv : Value) (sz : Int) (a b : Bool) (w : World) : (Instr.field 30 (.agg #[pa, .int .i64 sz, sv, .bool a, .bool b]) 2).run Tryz.prog w = .ok (.bool a) w := by
  have hagg : (isAgg 4).run Tryz.prog w = .ok false w := by
    unfold isAgg
    rw [Sem.run_bind, run_underlying Tryz.underlying4 w]
    rfl
  simp [Instr.field, Sem.run_bind, run_underlying Tryz.underlying30, asAgg, part, hagg]
set_option maxHeartbeats 1000000 in
theorem spacePlays_any (size pages : Int) (PL : Option Addr) (capL : Nat) (L : List AcS) (w : World) (hsz : inI size) (hpg : inI pages) (hL : SlG csAc w PL capL L) (hok : ∀ x ∈ L, AcOk x) :
    Calls Tryz.prog 3 #[.int .i64 size, .int .i64 pages, .slice PL L.length capL] w fun e w' => e = .returned (.bool true) ∧ Ext w w' := by
  have hA := acts_any size pages PL capL L w hL
  go_enter Tryz.func3, Tryz.ntmps3
  go_wp2_with (go_at_call 8; refine hA.mono ?_; rintro e w1 ⟨⟨b, rfl, hb⟩, hx1⟩; cases b)
  · refine (sawake_any _).mono ?_
    rintro e w2 ⟨rfl, hx2⟩
    go_wp2
    go_ret
    exact ⟨rfl, hx1.trans hx2⟩
  · have hP := play_any size pages PL capL L w1 hsz hpg (hL.ext hx1) hok (by have h40 : L.length ≤ 40 := by simpa using hb
                                                                             omega)
    go_wp2_with (fail)
    refine hP.mono ?_
    rintro e w2 ⟨pp, PR, nR, cR, sz, ok, rfl, hx2, _⟩
    have hfl := fun w => played_field (.pointer pp) (.slice PR nR cR) sz true ok w
    go_wp2_with (go_at_call 9; refine (sawake_any _).mono ?_; rintro e w3 ⟨rfl, hx3⟩)
    go_ret
    exact ⟨rfl, (hx1.trans hx2).trans hx3⟩
end Go.Proofs.YtnileonlabpbpaaGreat
