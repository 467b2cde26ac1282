/- Arrays: slices.Chunk; Pack of the reference. -/
import Derived.Test.YtiakmcfbkceojaaArR3
namespace Go.Proofs.Ytiakmcfbkceojaa
open Go.RowKit Go.Maps
set_option linter.unusedVariables false
set_option linter.unusedSimpArgs false
set_option maxRecDepth 20000
attribute [local go_sem] Oper.semAt_some

/-- the first k pieces of n numbers each -/
def chunkN (F : List Int) (n : Nat) : Nat → List (List Int)
  | 0 => []
  | k + 1 => chunkN F n k ++ [(F.drop (k * n)).take n]
theorem chunkN_length (F : List Int) (n : Nat) : ∀ k, (chunkN F n k).length = k
  | 0 => rfl
  | k + 1 => by simp [chunkN, chunkN_length F n k]
theorem chunkN_flat (F : List Int) (n : Nat) : ∀ k, (chunkN F n k).flatten = F.take (k * n)
  | 0 => by simp [chunkN]
  | k + 1 => by
    rw [chunkN, List.flatten_append, chunkN_flat F n k, Nat.succ_mul, List.take_add]
    simp
theorem chunkN_len (F : List Int) (n k : Nat) : ((F.drop (k * n)).take n).length = min n (F.length - k * n) := by simp
theorem chunkN_ok (F : List Int) (n : Nat) (hn : 0 < n) : ∀ k, (∀ j, j < k → j * n < F.length) → ∀ l ∈ chunkN F n k, l ≠ [] ∧ l.length ≤ n
  | 0, _ => fun l hl => by simp [chunkN] at hl
  | k + 1, h => fun l hl => by
    simp only [chunkN, List.mem_append, List.mem_singleton] at hl
    rcases hl with hl | rfl
    · exact chunkN_ok F n hn k (fun j hj => h j (by omega)) l hl
    · have h1 := h k (by omega)
      have h2 := chunkN_len F n k
      refine ⟨fun e => ?_, by omega⟩
      rw [e, List.length_nil] at h2
      omega
/-- how many pieces there are -/
def chunkM (F : List Int) (n : Nat) : Nat := (F.length + n - 1) / n
theorem chunkM_lt {F : List Int} {n : Nat} (hn : 0 < n) {k : Nat} : k < chunkM F n ↔ k * n < F.length := by
  unfold chunkM
  have e : k < (F.length + n - 1) / n ↔ (k + 1) * n ≤ F.length + n - 1 := Nat.le_div_iff_mul_le hn
  rw [e, Nat.succ_mul]
  omega
theorem chunkM_le (F : List Int) {n : Nat} (hn : 0 < n) : chunkM F n ≤ F.length := by
  rcases Nat.eq_zero_or_pos (chunkM F n) with h | h
  · omega
  · have h1 := (chunkM_lt (F := F) hn (k := chunkM F n - 1)).1 (by omega)
    have h2 : chunkM F n - 1 ≤ (chunkM F n - 1) * n := Nat.le_mul_of_pos_right _ hn
    omega
/-- the keys in pieces -/
def packF (F : List Int) (n : Nat) : List (List Int) := chunkN F n (chunkM F n)
theorem packF_flat (F : List Int) {n : Nat} (hn : 0 < n) : (packF F n).flatten = F := by
  unfold packF
  rw [chunkN_flat]
  have : ¬ chunkM F n * n < F.length := fun h => by have := (chunkM_lt hn).2 h; omega
  exact List.take_of_length_le (by omega)
theorem packF_ok {b : Int} {LL : List (List Int)} {n : Nat} (hok : ArOk b LL) (hn : 0 < n) (hb : (n : Int) ≤ b) : ArOk b (packF LL.flatten n) :=
  ⟨hok.room, fun l hl => by
    have := chunkN_ok LL.flatten n hn (chunkM LL.flatten n) (fun j hj => (chunkM_lt hn).1 hj) l hl
    exact ⟨this.1, by omega⟩, by rw [packF_flat _ hn]; exact hok.keys⟩

/-- a slice from i to j -/
theorem slice_mid (b off len c i j : Nat) (hij : i ≤ j) (hj : j ≤ c) (hi : i < c) (T : TypeId) (hT : Try.prog.underlying T = some (.slice (Try.prog.elem T))) (hs : (Try.prog.info? (Try.prog.elem T)).map (·.size) = some 1) :
    ∀ w, (Instr.slice T (.slice (some ⟨b, off, none⟩) len c) (some (.int .i64 i)) (some (.int .i64 j)) none).run Try.prog w = .ok (.slice (some ⟨b, off + i, none⟩) (j - i) (c - i)) w := by
  intro w
  rw [run_slice_lh (w := w) T (some ⟨b, off, none⟩) len c hT .i64 .i64 i j (by omega) (by omega) (by omega)]
  cases hq : Try.prog.info? (Try.prog.elem T) with
  | none => simp [hq] at hs
  | some x =>
    have hx : x.size = 1 := by simpa [hq] using hs
    simp [sizeOf, typeInfo, hq, hx, sliced, Result.andThen, show ¬ c = i by omega, Go.WideShapes.add_plain]
theorem SlI.mid {W : World} {b off c : Nat} {l : List Int} (h : SlI W (some ⟨b, off, none⟩) c l) (i n : Nat) (hi : i ≤ l.length) : SlI W (some ⟨b, off + i, none⟩) (c - i) ((l.drop i).take n) := by
  have h1 := (h.drops i hi)
  by_cases hn : n ≤ (l.drop i).length
  · exact h1.takes n hn
  · rw [List.take_of_length_le (by omega)]; exact h1

/-- the first pieces are put out -/
def PackR (F : List Int) (n : Nat) (w : World) (i v : Value) (wr : World) : Prop :=
  ∃ (k : Nat) (RR : List Row), k ≤ chunkM F n ∧ i = .int .i64 ((k * n : Nat) : Int) ∧ OwnA wr w.heap.size v RR ∧ RR.map Row.l = chunkN F n k ∧ Ext w wr
/-- how Pack ends -/
def PackPost (RL : List (List Int)) (w : World) (e : Ending) (w' : World) : Prop := ∃ v RR, e = .returned (.tuple #[v, .int .i64 0]) ∧ OwnA w' w.heap.size v RR ∧ RR.map Row.l = RL ∧ Ext w w'
theorem map_len {RR : List Row} {X : List (List Int)} (h : RR.map Row.l = X) : RR.length = X.length := by rw [← h, List.length_map]

set_option maxHeartbeats 2000000 in
theorem rpack_yes (b : Int) (n : Nat) (P : Option Addr) (cap : Nat) (Q : Nat → Option Addr) (C : Nat → Nat) (LL : List (List Int)) (w : World) (h : SlA w P cap Q C LL) (hok : ArOk b LL) (hn : 0 < n) (hb : (n : Int) ≤ b) :
    Calls Try.prog 29 #[.int .i64 b, .slice P LL.length cap, .int .i64 n] w (PackPost (packF LL.flatten n) w) := by
  have hle := hok.le
  have hb2 := roomB_t hok.room
  have hL : Calls Try.prog 20 #[.int .i64 b, .slice P LL.length cap] w fun e w' => ∃ P' cap', e = .returned (.tuple #[.slice P' LL.flatten.length cap', .int .i64 0]) ∧ SlI w' P' cap' LL.flatten ∧ Ext w w' := (rkeys_yes b P cap Q C LL w h hok).mono (by
    rintro e w' ⟨v, rfl, hown, hx⟩
    obtain ⟨P', cap', rfl, hs⟩ := slI_of_row hown
    exact ⟨P', cap', rfl, hs, hx⟩)
  clear hok
  generalize LL.flatten = F at *
  have d1 : ¬ (n : Int) < 1 := by omega
  have d2 : ¬ b < (n : Int) := by omega
  go_enter Try.func29, Try.ntmps29
  go_wp2_with (go_at_call 20; refine hL.mono ?_; rintro e w1 ⟨P', c', rfl, hs, hx1⟩)
  go_loopw [11, 10] (fun i v wr => PackR F n w1 i v wr) (fun i _ _ => F.length - (intOf i).toNat)
  case atStart => exact ⟨0, [], by omega, by simp, OwnA.nil _ _, rfl, Ext.refl w1⟩
  case round =>
    obtain ⟨k, RR, hk, rfl, hO, hRR, hx⟩ := hrel
    by_cases hlt : k < chunkM F n
    · have hkn := (chunkM_lt hn).1 hlt
      obtain ⟨i, hi⟩ : ∃ i, k * n = i := ⟨_, rfl⟩
      have Hi := Lib.hid hi
      rw [hi] at hkn ⊢
      clear hi
      have HRR := Lib.hid hRR
      have hRl := map_len hRR
      rw [chunkN_length] at hRl
      have hkl := chunkM_le F hn
      have hin : i < F.length := hkn
      have hsc := hs.le
      have hcc := hs.cap
      obtain ⟨bb, off, hP, _⟩ := hs.at_ i hin
      subst hP
      have hsx := hs.ext hx
      have hpiece := hsx.mid i n (by omega)
      have Hm : Hid (chunkN F n (k + 1) = chunkN F n k ++ [(F.drop i).take n]) := Lib.hid (by rw [chunkN, Hi.out])
      have Hi2 : Hid ((k + 1) * n = i + n) := Lib.hid (by rw [Nat.succ_mul, Hi.out])
      have w3 : IntKind.i64.wrap ((i : Int) + n) = (i : Int) + n := IntWalk.i64_in _ ⟨by omega, by omega⟩
      have c1 : (i : Int) < F.length := by omega
      rcases Nat.lt_or_ge F.length (i + n) with hAB | hAB
      · have hsl := slice_mid bb off F.length c' i F.length (by omega) (by omega) (by omega) 22 (by kernel_rfl) (by kernel_rfl)
        have m1 : ¬ ((i : Int) + n ≤ F.length) := by omega
        have m2 : (F.length : Int) < (i : Int) + n := by omega
        have hpl : ((F.drop i).take n).length = F.length - i := by rw [List.length_take, List.length_drop]; omega
        obtain ⟨v1, w2, hrun, hown, hx2⟩ := fresh_ints wr ((F.drop i).take n) bb (off + i) (c' - i) hpiece (by omega)
        obtain ⟨g, c, rfl, hT⟩ := TightB.of hown (fun e => by rw [e, List.length_nil] at hpl; omega)
        rw [hpl] at hrun
        have hgw : wr.heap.size ≤ g := hT.inB.1
        obtain ⟨v6, W6, hrun6, hO6, hx6⟩ := app_one (hx.trans hx2) (hO.ext hx2) (hT.inB.down hx.size) (fun x hx' => by have := hO.lt hx'; simp only; omega) (fun e => by have := (hO.out.lt _ e).2; simp only at this; omega) (by omega)
        simp only [hpl] at hrun6
        have Hall : Hid (OwnA W6 w1.heap.size v6 (RR ++ [⟨g, c, (F.drop i).take n⟩]) ∧ Ext w1 W6) := Lib.hid ⟨hO6, hx6⟩
        clear hO6 hx6 hgw hT hown hx2 hpl hpiece hsx hRR hRl hO
        go_wp2_with (first
          | (at_builtin; refine Lib.wpList_append_run _ rfl _ _ _ _ rfl _ _ rfl rfl _ _ hrun ?_)
          | (at_builtin; refine Lib.wpList_append_run _ rfl _ _ _ _ rfl _ _ rfl rfl _ _ hrun6 ?_))
        go_roundw
        case rel => exact ⟨k + 1, _, by omega, by rw [Hi2.out]; go_num, Hall.out.1, by rw [List.map_append, HRR.out, Hm.out]; rfl, Hall.out.2⟩
        case measure => simp [intOf]; omega
      · have hsl := slice_mid bb off F.length c' i (i + n) (by omega) (by omega) (by omega) 22 (by kernel_rfl) (by kernel_rfl)
        rw [Int.natCast_add, Nat.add_sub_cancel_left] at hsl
        have m1 : (i : Int) + n ≤ F.length := by omega
        have m2 : ¬ ((F.length : Int) < (i : Int) + n) := by omega
        have hpl : ((F.drop i).take n).length = n := by rw [List.length_take, List.length_drop]; omega
        obtain ⟨v1, w2, hrun, hown, hx2⟩ := fresh_ints wr ((F.drop i).take n) bb (off + i) (c' - i) hpiece (by omega)
        obtain ⟨g, c, rfl, hT⟩ := TightB.of hown (fun e => by rw [e, List.length_nil] at hpl; omega)
        rw [hpl] at hrun
        have hgw : wr.heap.size ≤ g := hT.inB.1
        obtain ⟨v6, W6, hrun6, hO6, hx6⟩ := app_one (hx.trans hx2) (hO.ext hx2) (hT.inB.down hx.size) (fun x hx' => by have := hO.lt hx'; simp only; omega) (fun e => by have := (hO.out.lt _ e).2; simp only at this; omega) (by omega)
        simp only [hpl] at hrun6
        have Hall : Hid (OwnA W6 w1.heap.size v6 (RR ++ [⟨g, c, (F.drop i).take n⟩]) ∧ Ext w1 W6) := Lib.hid ⟨hO6, hx6⟩
        clear hO6 hx6 hgw hT hown hx2 hpl hpiece hsx hRR hRl hO
        go_wp2_with (first
          | (at_builtin; refine Lib.wpList_append_run _ rfl _ _ _ _ rfl _ _ rfl rfl _ _ hrun ?_)
          | (at_builtin; refine Lib.wpList_append_run _ rfl _ _ _ _ rfl _ _ rfl rfl _ _ hrun6 ?_))
        go_roundw
        case rel => exact ⟨k + 1, _, by omega, by rw [Hi2.out]; go_num, Hall.out.1, by rw [List.map_append, HRR.out, Hm.out]; rfl, Hall.out.2⟩
        case measure => simp [intOf]; omega
    · obtain rfl : k = chunkM F n := by omega
      have hge : ¬ (chunkM F n * n < F.length) := fun hh => hlt ((chunkM_lt hn).2 hh)
      obtain ⟨i, hi⟩ : ∃ i, chunkM F n * n = i := ⟨_, rfl⟩
      rw [hi] at hge ⊢
      have c1 : ¬ (i : Int) < F.length := by omega
      clear hi hge
      go_wp2
      go_ret2
      exact ⟨_, RR, rfl, hO.down hx1.size, hRR, hx1.trans hx⟩
end Go.Proofs.Ytiakmcfbkceojaa
