/- Arrays: insert, as far as the place is found. -/
import Derived.Test.YtgdbhmdhonnmgaaDoorArQ
import Derived.Test.YtgdbhmdhonnmgaaDoorHeld
import Derived.Deep.RegionHeld3
namespace Go.Proofs.YtgdbhmdhonnmgaaDoor
open Go.RowKit Go.Maps
set_option linter.unusedVariables false
set_option maxRecDepth 20000
set_option linter.unusedSimpArgs false
set_option maxRecDepth 20000
attribute [local go_sem] Oper.semAt_some

/-- what is known past the range: the three boxes -/
def Spot3 (w W : World) (n A B : Nat) (index q p : Int) : Prop :=
  Boxed W n 3 (.int .i64 index) ∧ Boxed W A 3 (.int .i64 q) ∧ Boxed W B 3 (.int .i64 p) ∧ Ext w W
theorem Spot3.ext {w W W' : World} {n A B : Nat} {index q p : Int} (h : Spot3 w W n A B index q p) (hx : Ext W W') : Spot3 w W' n A B index q p :=
  ⟨hx.heap h.1, hx.heap h.2.1, hx.heap h.2.2.1, h.2.2.2.trans hx⟩
theorem Spot3.upd {w W W' : World} {n A B k : Nat} {index q p : Int} (h : Spot3 w W n A B index q p) (hx : Upd W k W') (h1 : n ≠ k) (h2 : A ≠ k) (h3 : B ≠ k) (hw : w.heap.size ≤ k) : Spot3 w W' n A B index q p :=
  ⟨hx.heap h.1 h1, hx.heap h.2.1 h2, hx.heap h.2.2.1 h3, Upd.ext h.2.2.2 hx hw⟩

set_option maxHeartbeats 2000000 in
theorem insert_at (b : Int) (hb : roomB b = true) (base g cap : Nat) (RR : List Row) (index : Nat) (k : Int) (w : World) (hown : OwnA w base (.slice (some ⟨g, 0, none⟩) RR.length cap) RR) (hbase : base ≤ w.heap.size) (hi : index ≤ (RR.map Row.l).flatten.length)
    (hne : ∀ l ∈ RR.map Row.l, l ≠ []) (ht : (RR.map Row.l).flatten.length ≤ 600) (hRR : RR ≠ []) (q p : Nat) (hqp : spotF (RR.map Row.l) index = (q, p)) (hblk : BlocksOk b (RR.map Row.l)) (hT : TightB w base (nthR RR q)) :
    Calls Tryd.prog 26 #[.int .i64 b, .slice (some ⟨g, 0, none⟩) RR.length cap, .int .i64 index, .int .i64 k] w (InsPost b base RR index k w) := by
  have hA := hown.slA
  have hn : RR.length ≠ 0 := fun e => hRR (List.length_eq_zero_iff.1 e)
  obtain ⟨j, hj⟩ : ∃ j, RR.length = j + 1 := ⟨RR.length - 1, by omega⟩
  have hjl : j < (RR.map Row.l).length := by simp; omega
  obtain ⟨b1, o1, e1, c1⟩ := hA.at_ j hjl
  simp only [Option.some.injEq, Addr.mk.injEq, and_true] at e1
  obtain ⟨rfl, rfl⟩ := e1
  rw [Nat.zero_add] at c1
  have hl := hA.len
  have hrl := hA.rowLen j hjl
  simp only [List.length_map] at hl
  have hgl : g < w.heap.size := block_lt c1
  have hgl1 : g < w.heap.size + 1 := by omega
  have hgl2 : g < w.heap.size + 2 := by omega
  have hend : ¬ index < (RR.map Row.l).flatten.length → (q : Int) = j ∧ (p : Int) = (nthA (RR.map Row.l) j).length := by
    intro h
    have e : index = (RR.map Row.l).flatten.length := by omega
    rw [e, spotF_end] at hqp
    have e2 : (RR.map Row.l).length - 1 = j := by simp; omega
    rw [e2] at hqp
    injection hqp with h1 h2
    exact ⟨by omega, by omega⟩
  have hin : index < (RR.map Row.l).flatten.length → locQ (RR.map Row.l) index = (q, p) := fun h => by rw [← spotF_in h]; exact hqp
  have d1 : ((RR.length : Int) == 0) = false := by simp; omega
  have d2 : IntKind.i64.wrap ((RR.length : Int) - 1) = j := by rw [IntWalk.i64_in _ ⟨by omega, by omega⟩]; omega
  have d3 : (j : Int) < RR.length := by omega
  have d4 : j < RR.length := by omega
  have Hj := Lib.hid hj
  have HS : Hid (SlA w (some ⟨g, 0, none⟩) cap (fun i => some ⟨(nthR RR i).h, 0, none⟩) (fun i => (nthR RR i).c) (RR.map Row.l)) := Lib.hid hA
  have hlen : (RR.map Row.l).length = RR.length := List.length_map ..
  clear hj hA
  refine calls_of_wpAt Tryd.func26 rfl ?_
  simp only [Tryd.ntmps26, List.size_toArray, List.length_cons, List.length_nil, Nat.reduceAdd, Nat.reduceSub, Array.replicate_succ, Array.replicate_zero, List.push_toArray, List.append_toArray, List.nil_append, List.cons_append]
  refine wpAt_seq_k (fun K hK => ?_)
  go_wp2
  refine wpAt_seq_k (fun K hK => ?_)
  go_wp2
  obtain ⟨W0, hW0⟩ : ∃ W0, w.alloc (.cells #[.int .i64 index] 3) = W0 := ⟨_, rfl⟩
  have hx0 : Ext w W0 := by rw [← hW0]; exact (Ext.refl w).alloc _
  have HZ0 : Hid (W0.heap.size = w.heap.size + 1) := Lib.hid (by rw [← hW0, World.size_alloc])
  have hb0 : Boxed W0 w.heap.size 3 (.int .i64 index) := by rw [← hW0]; exact Boxed.new _ _ _
  have e1 := hx0.cell c1
  have e2 : W0.heap.size ≠ g := by have := HZ0.out; omega
  have e3 : W0.heap.size + 1 ≠ g := by have := HZ0.out; omega
  have e4 := World.new_ne W0 _ e1
  rw [hW0]
  clear hW0 c1
  refine wpAt_seq_k (fun K hK => ?_)
  go_region_held3 (fun w' => w'.cell? ⟨g, j, none⟩ = some (.slice (some ⟨(nthR RR j).h, 0, none⟩) (nthA (RR.map Row.l) j).length (nthR RR j).c)) (go_keep) (fail)
  all_goals refine hK _ _ ?_
  all_goals clear hK
  clear hgl hgl1 hgl2 d1 d2 e1 e4
  all_goals first
    | (obtain ⟨W1, hW1⟩ : ∃ W1, ((W0.alloc (.cells #[.int .i64 j] 3)).alloc (.cells #[.int .i64 ((nthA (RR.map Row.l) j).length : Nat)] 3)).drew = W1 := ⟨_, rfl⟩
       rw [hW1]
       have hy := Boxed.new W0 3 (.int .i64 j)
       have hz := Boxed.new (W0.alloc (.cells #[.int .i64 j] 3)) 3 (.int .i64 ((nthA (RR.map Row.l) j).length : Nat))
       rw [World.size_alloc] at hz
       have hF : Spot3 w W1 w.heap.size W0.heap.size (W0.heap.size + 1) index j (nthA (RR.map Row.l) j).length := by
         rw [← hW1]
         exact ⟨(hb0.alloc _).alloc _, hy.alloc _, hz, ((hx0.alloc _).alloc _).drew⟩
       clear hy hz
       have hzz : W1.heap.size = W0.heap.size + 2 := by rw [← hW1]; simp [World.drew, World.size_alloc]
       have HD : Hid (w.heap.size < W0.heap.size ∧ w.heap.size < (W0.heap.size + 1) ∧ W0.heap.size ≠ (W0.heap.size + 1) ∧ W0.heap.size < W1.heap.size ∧ (W0.heap.size + 1) < W1.heap.size) := Lib.hid (by have := HZ0.out; omega)
       clear hW1 hzz HZ0
       generalize W0.heap.size + 1 = B at *
       generalize W0.heap.size = A at *)
    | (obtain ⟨W1, hW1⟩ : ∃ W1, ((W0.alloc (.cells #[.int .i64 ((nthA (RR.map Row.l) j).length : Nat)] 3)).alloc (.cells #[.int .i64 j] 3)).drew = W1 := ⟨_, rfl⟩
       rw [hW1]
       have hy := Boxed.new W0 3 (.int .i64 ((nthA (RR.map Row.l) j).length : Nat))
       have hz := Boxed.new (W0.alloc (.cells #[.int .i64 ((nthA (RR.map Row.l) j).length : Nat)] 3)) 3 (.int .i64 j)
       rw [World.size_alloc] at hz
       have hF : Spot3 w W1 w.heap.size (W0.heap.size + 1) W0.heap.size index j (nthA (RR.map Row.l) j).length := by
         rw [← hW1]
         exact ⟨(hb0.alloc _).alloc _, hz, hy.alloc _, ((hx0.alloc _).alloc _).drew⟩
       clear hy hz
       have hzz : W1.heap.size = W0.heap.size + 2 := by rw [← hW1]; simp [World.drew, World.size_alloc]
       have HD : Hid (w.heap.size < (W0.heap.size + 1) ∧ w.heap.size < W0.heap.size ∧ (W0.heap.size + 1) ≠ W0.heap.size ∧ (W0.heap.size + 1) < W1.heap.size ∧ W0.heap.size < W1.heap.size) := Lib.hid (by have := HZ0.out; omega)
       clear hW1 hzz HZ0
       generalize W0.heap.size + 1 = A at *
       generalize W0.heap.size = B at *)
  all_goals clear e2 e3
  all_goals refine wpAt_seq ?_
  all_goals refine wpAt_seq_k (fun K hK => ?_)
  all_goals go_wp2_with (go_at_call 40; refine (keys_any _ _ _ _).mono ?_; rintro e w2 ⟨rfl, rfl⟩)
  all_goals
    obtain ⟨W2, hW2⟩ : ∃ W2, W1.alloc (.cells #[.slice (some ⟨g, 0, none⟩) RR.length cap] 22) = W2 := ⟨_, rfl⟩
    have hC : Boxed W2 W1.heap.size 22 (.slice (some ⟨g, 0, none⟩) RR.length cap) := by rw [← hW2]; exact Boxed.new _ _ _
    have hF2 : Spot3 w W2 w.heap.size A B index j (nthA (RR.map Row.l) j).length := hF.ext (by rw [← hW2]; exact (Ext.refl _).alloc _)
    have hz2 : W2.heap.size = W1.heap.size + 1 := by rw [← hW2, World.size_alloc]
    have HC : Hid (A < W1.heap.size ∧ B < W1.heap.size ∧ W1.heap.size < W2.heap.size ∧ w.heap.size < A ∧ w.heap.size < B ∧ A ≠ B) := Lib.hid (by have := HD.out; omega)
    rw [hW2]
    clear hW2 hF hz2 HD
    generalize W1.heap.size = C at *
    apply wpAt_to (F := fun W => Spot3 w W w.heap.size A B index q p ∧ W.heap[W2.heap.size]? = some (.deferred (some [])))
    case h =>
      refine wpAt_block ?_
      refine wpAt_rangeFunc (hf := Tryd.func26) (gf := 61) (lb := #[.pointer (some ⟨C, 0, none⟩)]) rfl (enters_of Tryd.func61 (by kernel_rfl) rfl)
        (keys_seq C (some ⟨g, 0, none⟩) cap (fun i => some ⟨(nthR RR i).h, 0, none⟩) (fun i => (nthR RR i).c) (RR.map Row.l) (by omega) (by omega) hne) (fun _ => rfl)
        (fun i W => Spot3 w W w.heap.size A B index j (nthA (RR.map Row.l) j).length ∧ Boxed W C 22 (.slice (some ⟨g, 0, none⟩) RR.length cap) ∧ i ≤ index)
        (fun i c W => c = .exit 0 ∧ Spot3 w W w.heap.size A B index q p)
        (fun _ _ _ => False)
        (fun i A' B' ⟨h1, h2, h3⟩ hx => ⟨h1.ext hx, hx.heap h2, h3⟩)
        (fun i c A' B' ⟨h1, h2⟩ hx => ⟨h1, h2.ext hx⟩)
        (fun i A' B' ⟨h1, h2, h3⟩ hx => ⟨h1.upd hx (by have := HC.out; omega) (by have := HC.out; omega) (by have := HC.out; omega) (by have := HC.out; omega), hx.heap h2 (by have := HC.out; omega), h3⟩)
        (fun i c A' B' ⟨h1, h2⟩ hx => ⟨h1, h2.upd hx (by have := HC.out; omega) (by have := HC.out; omega) (by have := HC.out; omega) (by have := HC.out; omega)⟩)
        (fun i A' ⟨h1, h2, h3⟩ => ⟨by rw [hlen]; exact h2.cell, HS.out.ext h1.2.2.2⟩)
        ⟨hF2, hC, Nat.zero_le _⟩ ?round ?done ?stop (fun _ _ _ _ h _ => h.elim)
      case round =>
        rintro i W ⟨hS3, hCW, hii⟩ hW hlt
        have hXY : i = index → (locQ (RR.map Row.l) i).1 = q ∧ (locQ (RR.map Row.l) i).2 = p := fun h => by rw [h, hin (by omega)]; exact ⟨rfl, rfl⟩
        simp only [atV]
        generalize (locQ (RR.map Row.l) i).1 = X at *
        generalize (locQ (RR.map Row.l) i).2 = Y at *
        generalize nthI (RR.map Row.l).flatten i = Z at *
        have hxa : Ext W (W.alloc (.cells #[.int .i64 i, .int .i64 X, .int .i64 Y, .int .i64 Z] 71)) := (Ext.refl W).alloc _
        have hn5 : (W.alloc (.cells #[.int .i64 i, .int .i64 X, .int .i64 Y, .int .i64 Z] 71)).heap[W.heap.size]? = some (.cells #[.int .i64 i, .int .i64 X, .int .i64 Y, .int .i64 Z] 71 (0, 0)) := World.alloc_heap_new _ _
        have hSa := hS3.ext hxa
        have hCa := hxa.heap hCW
        gi_wp2
        refine ⟨hxa.block (by omega), hxa.block (by omega), ?_⟩
        intro W3 hu3 hs3
        have HC' := HC.out
        replace hn5 := hu3.heap hn5 (by omega)
        replace hSa := hSa.upd hu3 (by omega) (by omega) (by omega) (by omega)
        replace hCa : Boxed W3 _ _ _ := hu3.heap hCa (by omega)
        have HE : Hid (w.heap.size < W.heap.size ∧ A < W.heap.size ∧ B < W.heap.size ∧ C < W.heap.size ∧ W2.heap.size + 1 < W.heap.size ∧ W.heap.size < W3.heap.size) := Lib.hid ⟨by omega, by omega, by omega, by omega, by omega, by have := hu3.size; rw [World.size_alloc] at this; omega⟩
        have g0 : W3.cell? ⟨W.heap.size, 0, none⟩ = some (.int .i64 i) := by simp [World.cell?, hn5]
        have g1 : W3.cell? ⟨W.heap.size, 1, none⟩ = some (.int .i64 X) := by simp [World.cell?, hn5]
        have g2 : W3.cell? ⟨W.heap.size, 2, none⟩ = some (.int .i64 Y) := by simp [World.cell?, hn5]
        clear hu3 hs3 hxa hS3 hCW hW hn5 HC'
        generalize W.heap.size = E at *
        have k0 := hSa.1.cell
        by_cases h : i = index
        · obtain ⟨rfl, rfl⟩ := hXY h
          subst h
          gi_wp2
          have u1 := hSa.2.1.cell
          have v1 := hSa.2.1.frozen
          have u2 := hSa.2.2.1.cell
          have v2 := hSa.2.2.1.frozen
          obtain ⟨x1, x2, x3, x4, x5, x6⟩ := HE.out
          obtain ⟨y1, y2, y3, y4, y5, y6⟩ := HC.out
          have z1 : A ≠ E := by omega
          have z2 : B ≠ E := by omega
          clear x1 x2 x3 x4 x5 x6 y1 y2 y3 y4 y5
          refine wpIn_round_held (fun W => W.cell? ⟨E, 1, none⟩ = some (.int .i64 X) ∧ W.cell? ⟨E, 2, none⟩ = some (.int .i64 Y)) (by kernel_rfl) (by rintro ⟨a, w, h⟩; exact h) (by kernel_rfl) ?_
          refine wpAnyH_take (i := 0) (v := .pointer (some ⟨E, 1, none⟩)) (fuel := 5) rfl (by kernel_rfl) (by kernel_rfl) (by kernel_rfl) (fun _ _ _ h => h) (.inl ⟨rfl, fun W hS => by obtain ⟨e1, e2⟩ := hS; go_simp⟩) ⟨g1, g2⟩ ?_
          refine wpAnyH_take (i := 1) (v := .int .i64 X) (fuel := 4) rfl (by kernel_rfl) (by kernel_rfl) (by kernel_rfl) (fun _ _ _ h => h) (.inl ⟨rfl, fun W hS => by obtain ⟨e1, e2⟩ := hS; go_simp⟩) ⟨g1, g2⟩ ?_
          refine wpAnyH_take (i := 2) (v := .pointer (some ⟨E, 2, none⟩)) (fuel := 3) rfl (by kernel_rfl) (by kernel_rfl) (by kernel_rfl) (fun _ _ _ h => h) (.inl ⟨rfl, fun W hS => by obtain ⟨e1, e2⟩ := hS; go_simp⟩) ⟨g1, g2⟩ ?_
          refine wpAnyH_take (i := 3) (v := .int .i64 Y) (fuel := 2) rfl (by kernel_rfl) (by kernel_rfl) (by kernel_rfl) (fun _ _ _ h => h) (.inl ⟨rfl, fun W hS => by obtain ⟨e1, e2⟩ := hS; go_simp⟩) ⟨g1, g2⟩ ?_
          refine wpAnyH_one (i := 4) (fuel := 1) rfl (by kernel_rfl) rfl fun K' hK => ?_
          go_simp
          refine hK _ _ ⟨by simp [World.cell?_setCell_far, z1, g1], by simp [World.cell?_setCell_far, z1, g2]⟩ ?_
          clear hK K'
          refine wpAnyH_one (i := 5) (fuel := 0) rfl (by kernel_rfl) rfl fun K' hK => ?_
          go_simp
          refine hK _ _ ⟨by simp [World.cell?_setCell_far, z1, z2, g1], by simp [World.cell?_setCell_far, z1, z2, g2]⟩ ?_
          clear hK K'
          refine wpAnyH_done (by kernel_rfl) ?_ 0
          gi_wp2
          obtain ⟨x1, x2, x3, x4, x5, x6⟩ := HE.out
          obtain ⟨y1, y2, y3, y4, y5, y6⟩ := HC.out
          exact ⟨(Below.heap_setCell _ _ _ _ (by simp; omega)).trans (Below.heap_setCell _ _ _ _ (by simp; omega)), (Below.heap_setCell _ _ _ _ (by simp; omega)).trans (Below.heap_setCell _ _ _ _ (by simp; omega)), rfl,
            ⟨(hSa.1.other (by omega) _).other (by omega) _, (hSa.2.1.set _).other (by omega) _, (hSa.2.2.1.other (by omega) _).set _, ((hSa.2.2.2.setCell (Nat.le_of_lt y4) _).setCell (Nat.le_of_lt y5) _).drew⟩⟩
        · have hd : ((i : Int) == index) = false := by simp; omega
          gi_wp2
          exact ⟨rfl, rfl, hSa, hCa, by omega⟩
      case done =>
        rintro W ⟨h1, h2, h3⟩ hD
        have hge : ¬ index < (RR.map Row.l).flatten.length := by omega
        obtain ⟨g1, g2⟩ := hend hge
        rw [← g1, ← g2] at h1
        exact ⟨rfl, rfl, h1, hD⟩
      case stop =>
        rintro i c W hlt ⟨rfl, h1⟩ hD
        go_wp2
        exact ⟨trivial, trivial, h1, hD⟩
    case hm =>
      rintro W ⟨hS3, hD⟩
      have hSp := spotF_spot (LL := RR.map Row.l) (index := index) (by simpa using hRR) hi
      rw [hqp] at hSp
      obtain ⟨hq, _, hp⟩ := hSp
      simp only at hq hp
      rw [hlen] at hq
      rw [nthA_map RR q hq] at hp
      have hp : p ≤ (nthR RR q).l.length := by omega
      have hX := hS3.2.2.2
      have hOW := hown.ext hX
      have hTW := hT.ext hX
      have hsp := splitR hq
      have hA1 : (RR.take q).length = q := by rw [List.length_take]; omega
      have hrl2 : (nthR RR q).l.length ≤ 600 := by
        have h1 := lenT_succ (LL := RR.map Row.l) (k := q) (by omega)
        have h2 := lenT_le (RR.map Row.l) (q + 1)
        rw [nthA_map RR q hq] at h1
        omega
      have hcq : W.cell? ⟨g, q, none⟩ = some (.slice (some ⟨(nthR RR q).h, 0, none⟩) (nthR RR q).l.length (nthR RR q).c) := by
        obtain ⟨b1, o1, e1, c1⟩ := (HS.out.ext hX).at_ q (by omega)
        simp only [Option.some.injEq, Addr.mk.injEq, and_true] at e1
        obtain ⟨rfl, rfl⟩ := e1
        rw [Nat.zero_add, nthA_map RR q hq] at c1
        exact c1
      have hrg : (nthR RR q).h ≠ g := fun e => hOW.far _ (nthR_mem hq) (by rw [e]; rfl)
      obtain ⟨r, hr⟩ : ∃ r, r = nthR RR q := ⟨_, rfl⟩
      obtain ⟨A1, hA⟩ : ∃ A1, A1 = RR.take q := ⟨_, rfl⟩
      obtain ⟨B1, hB⟩ : ∃ B1, B1 = RR.drop (q + 1) := ⟨_, rfl⟩
      rw [← hr, ← hA, ← hB] at hsp
      rw [← hA] at hA1
      rw [← hr] at hp hTW hrl2 hcq hrg
      have c1 := hS3.2.1.cell
      have c2 := hS3.2.2.1.cell
      have hgl : g < w.heap.size := (hown.out.lt g rfl).2
      have hrl3 : r.h < w.heap.size := by rw [hr]; exact hown.lt (nthR_mem hq)
      have hWs := hX.size
      have hDl : W2.heap.size < W.heap.size := (Array.getElem?_eq_some_iff.1 hD).1
      obtain ⟨y1, y2, y3, y4, y5, y6⟩ := HC.out
      have hcall : ∀ Wd vb, Ext W Wd → Wd.heap[vb]? = some (.cells #[.int .i64 k] 3 (0, 0)) → W.heap.size ≤ vb →
          Calls Tryd.prog 41 #[.slice (some ⟨r.h, 0, none⟩) r.l.length r.c, .int .i64 p, .slice (some ⟨vb, 0, none⟩) 1 1] Wd fun e w' =>
            ∃ h c, e = .returned (.slice (some ⟨h, 0, none⟩) (r.l.length + 1) c) ∧ TightB w' base ⟨h, c, insI r.l p k⟩ ∧ Wd.grownBy w' (some r.h) ∧ (h = r.h ∨ h = Wd.heap.size) :=
        fun Wd vb hx hv hvb => insert_row base r p k vb Wd (hTW.ext hx) hp (by omega) (by have := hx.size; omega) hv (by omega)
      have n1 : A ≠ g := by omega
      have n2 : B ≠ g := by omega
      have n3 : A ≠ r.h := by omega
      have n4 : B ≠ r.h := by omega
      have n5 : W.heap.size ≠ g := by omega
      have n6 : W.heap.size ≠ A := by omega
      have n7 : W.heap.size ≠ B := by omega
      have qlt : (q : Int) < RR.length := by omega
      clear y1 y2 y3 y4 y5 y6 hWs hDl hrl3 hgl
      have Hsp := Lib.hid hsp
      have HA1 := Lib.hid hA1
      have Hr := Lib.hid hr
      have Hqp := Lib.hid hqp
      clear hsp hA1 hr hA hB hqp hin hend
      have f1 : W.frozen? ⟨g, q, none⟩ = false := hOW.out.frozenAt _
      refine wpAt_seq_k (fun K hK => ?_)
      refine wp_region_noPanic ?_
      refine wp_region_F (fun w' => w'.cell? ⟨A, 0, none⟩ = some (.int .i64 q) ∧ w'.cell? ⟨B, 0, none⟩ = some (.int .i64 p) ∧ w'.cell? ⟨g, q, none⟩ = some (.slice (some ⟨r.h, 0, none⟩) r.l.length r.c)) 11 (by kernel_rfl) ?_
      have hc0 := (⟨c1, c2, hcq⟩ : W.cell? ⟨A, 0, none⟩ = some (.int .i64 q) ∧ W.cell? ⟨B, 0, none⟩ = some (.int .i64 p) ∧ W.cell? ⟨g, q, none⟩ = some (.slice (some ⟨r.h, 0, none⟩) r.l.length r.c))
      refine wpAnyF_take (i := 0) (v := .slice (some ⟨g, 0, none⟩) RR.length cap) (fuel := 11) rfl (by kernel_rfl) (by kernel_rfl) (by kernel_rfl) (by kernel_rfl) (by kernel_rfl) rfl (fun _ _ _ h => h) (.inl ⟨rfl, fun W hS => by obtain ⟨e1, e2, e3⟩ := hS; go_simp⟩) hc0 ?_
      refine wpAnyF_take (i := 1) (v := .int .i64 q) (fuel := 10) rfl (by kernel_rfl) (by kernel_rfl) (by kernel_rfl) (by kernel_rfl) (by kernel_rfl) rfl (fun _ _ _ h => h) (.inl ⟨rfl, fun W hS => by obtain ⟨e1, e2, e3⟩ := hS; go_simp⟩) hc0 ?_
      refine wpAnyF_take (i := 2) (v := .slice (some ⟨g, 0, none⟩) RR.length cap) (fuel := 9) rfl (by kernel_rfl) (by kernel_rfl) (by kernel_rfl) (by kernel_rfl) (by kernel_rfl) rfl (fun _ _ _ h => h) (.inl ⟨rfl, fun W hS => by obtain ⟨e1, e2, e3⟩ := hS; go_simp⟩) hc0 ?_
      refine wpAnyF_take (i := 3) (v := .int .i64 q) (fuel := 8) rfl (by kernel_rfl) (by kernel_rfl) (by kernel_rfl) (by kernel_rfl) (by kernel_rfl) rfl (fun _ _ _ h => h) (.inl ⟨rfl, fun W hS => by obtain ⟨e1, e2, e3⟩ := hS; go_simp⟩) hc0 ?_
      refine wpAnyF_take (i := 4) (v := .pointer (some ⟨g, q, none⟩)) (fuel := 7) rfl (by kernel_rfl) (by kernel_rfl) (by kernel_rfl) (by kernel_rfl) (by kernel_rfl) rfl (fun _ _ _ h => h) (.inl ⟨rfl, fun W hS => by obtain ⟨e1, e2, e3⟩ := hS; go_simp⟩) hc0 ?_
      refine wpAnyF_take (i := 5) (v := .slice (some ⟨r.h, 0, none⟩) r.l.length r.c) (fuel := 6) rfl (by kernel_rfl) (by kernel_rfl) (by kernel_rfl) (by kernel_rfl) (by kernel_rfl) rfl (fun _ _ _ h => h) (.inl ⟨rfl, fun W hS => by obtain ⟨e1, e2, e3⟩ := hS; go_simp⟩) hc0 ?_
      refine wpAnyF_take (i := 6) (v := .int .i64 p) (fuel := 5) rfl (by kernel_rfl) (by kernel_rfl) (by kernel_rfl) (by kernel_rfl) (by kernel_rfl) rfl (fun _ _ _ h => h) (.inl ⟨rfl, fun W hS => by obtain ⟨e1, e2, e3⟩ := hS; go_simp⟩) hc0 ?_
      refine wpAnyF_take (i := 7) (v := .int .i64 k) (fuel := 4) rfl (by kernel_rfl) (by kernel_rfl) (by kernel_rfl) (by kernel_rfl) (by kernel_rfl) rfl (fun _ _ _ h => h) (.inl ⟨rfl, fun W hS => by obtain ⟨e1, e2, e3⟩ := hS; go_simp⟩) hc0 ?_
      refine wpAnyF_one (i := 8) (fuel := 3) rfl (by kernel_rfl) rfl fun K' hK' => ?_
      go_simp
      refine hK' _ _ (fun _ => ⟨((Ext.refl W).alloc _).drew.cell c1, ((Ext.refl W).alloc _).drew.cell c2, ((Ext.refl W).alloc _).drew.cell hcq⟩) ?_
      clear hK' K'
      refine wpAnyF_one (i := 9) (fuel := 2) rfl (by kernel_rfl) rfl fun K' hK' => ?_
      go_simp
      refine (hcall _ _ (by first | exact ((Ext.refl _).alloc _).drew | exact ((Ext.refl _).drew).alloc _) (by exact World.alloc_heap_new _ _) (by simp)).mono ?_
      rintro e w3 ⟨h', c', rfl, hT3, hg3, hb3⟩
      have x1 := hg3.cell (((Ext.refl W).alloc _).drew.cell c1) (fun e => n3 (by injection e))
      have x2 := hg3.cell (((Ext.refl W).alloc _).drew.cell c2) (fun e => n4 (by injection e))
      have x3 := hg3.cell (((Ext.refl W).alloc _).drew.cell hcq) (fun e => hrg (by injection e with e; exact e.symm))
      have x4 := grown_frozen hg3 (((Ext.refl W).alloc _).drew.cell hcq) (((Ext.refl W).alloc _).drew.frozen hcq f1) (fun e => hrg (by injection e with e; exact e.symm))
      refine hK' _ _ (fun _ => ⟨x1, x2, x3⟩) ?_
      clear hK' K'
      refine wpAnyF_one (i := 10) (fuel := 1) rfl (by kernel_rfl) rfl fun K' hK' => ?_
      go_simp
      refine hK' _ _ (fun _ => ⟨x1, x2, x3⟩) ?_
      clear hK' K'
      refine wpAnyF_one (i := 11) (fuel := 0) rfl (by kernel_rfl) rfl fun K' hK' => ?_
      go_simp
      refine hK' _ _ (fun h => by simp at h) ?_
      clear hK' K'
      refine wpAnyF_done (by kernel_rfl) ?_ 0
      refine NoPanic.normal (hK _ _ ?_)
      clear hK K
      have hil := insI_length (k := k) hp
      have hxd : Ext W (W.alloc (.cells #[.int .i64 k] 3)).drew := ((Ext.refl W).alloc _).drew
      have hOd := hOW.ext hxd
      rw [Hsp.out] at hOd
      have hO4 := hOd.set_ (r' := ⟨h', c', insI r.l p k⟩) hg3 hT3.inB hb3
      rw [HA1.out] at hO4
      simp only [Row.v, hil] at hO4
      rw [← Hsp.out] at hO4
      have hlq : (A1 ++ (⟨h', c', insI r.l p k⟩ : Row) :: B1).length = RR.length := by rw [Hsp.out]; simp
      have hout := hO4.out
      rw [hlq] at hout
      obtain ⟨y1, y2, y3, y4, y5, y6⟩ := HC.out
      have hbr : base ≤ r.h := by have := hOd.ge (r := r) (by simp); exact this
      have hbg : base ≤ g := (hown.out.lt g rfl).1
      have hgw : g < w.heap.size := (hown.out.lt g rfl).2
      have hrw : r.h < w.heap.size := by rw [Hr.out]; exact hown.lt (nthR_mem hq)
      have hB3 : Below base w w3 := Below.grown (Below.mono ((hX.trans hxd)) hbase) hg3 (by have := hX.size; have := hxd.size; omega) (fun i hi => by injection hi with hi; omega)
      have hB4 : Below base w (w3.setCell ⟨g, q, none⟩ (.slice (some ⟨h', 0, none⟩) (r.l.length + 1) c')) := Below.setCell hB3 hbg _
      have hDh : W2.heap.size < W.heap.size := (Array.getElem?_eq_some_iff.1 hD).1
      have hD4 : (w3.setCell ⟨g, q, none⟩ (.slice (some ⟨h', 0, none⟩) (r.l.length + 1) c')).heap[W2.heap.size]? = some (.deferred (some [])) := (Below.heap_setCell _ _ _ _ (by simp; omega)).trans ((hg3.block _ (by have := hxd.size; omega) (fun e => by injection e with e; omega)).trans (hxd.heap hD))
      have hh4 : h' ≠ g := by rcases hb3 with e | e <;> rw [e] <;> first | exact hrg | (have := hxd.size; have := hX.size; omega)
      have hT4 : TightB (w3.setCell ⟨g, q, none⟩ (.slice (some ⟨h', 0, none⟩) (r.l.length + 1) c')) base ⟨h', c', insI r.l p k⟩ := hT3.same (Below.heap_setCell _ _ _ _ hh4)
      have a1 : (w3.setCell ⟨g, q, none⟩ (.slice (some ⟨h', 0, none⟩) (r.l.length + 1) c')).cell? ⟨A, 0, none⟩ = some (.int .i64 q) := by rw [World.cell?_setCell_far _ _ _ _ (Ne.symm n1)]; exact x1
      have a3 : (w3.setCell ⟨g, q, none⟩ (.slice (some ⟨h', 0, none⟩) (r.l.length + 1) c')).cell? ⟨g, q, none⟩ = some (.slice (some ⟨h', 0, none⟩) (r.l.length + 1) c') := by
        have := hout.cellAt q (by rw [Nat.mul_one]; exact hq)
        rw [this, ← HA1.out]
        simp [Row.v, hil]
      have a4 : (w3.setCell ⟨g, q, none⟩ (.slice (some ⟨h', 0, none⟩) (r.l.length + 1) c')).frozen? ⟨g, q, none⟩ = false := hout.frozenAt _
      clear hout
      clear y1 y2 y3 y4 y5 y6 hB3 hDh
      clear hOd hg3 hb3 hT3 x1 x2 x3 x4 hc0 hcq c1 c2 f1 hcall hOW hTW hS3 hD hxd
      generalize w3.setCell ⟨g, q, none⟩ (.slice (some ⟨h', 0, none⟩) (r.l.length + 1) c') = W4 at *
      have hres : insF b (RR.map Row.l) index k = A1.map Row.l ++ splitF b (insI r.l p k) ++ B1.map Row.l := by
        rw [insF_ne (by simpa using hRR), Hqp.out, Hsp.out, List.map_append, List.map_cons]
        exact putAt_mid b _ _ _ q p k (by rw [List.length_map, HA1.out])
      have hlast : index = (RR.map Row.l).flatten.length → B1 = [] := fun e => by
        have h1 := Hqp.out
        rw [e, spotF_end] at h1
        injection h1 with h1 h2
        have h3 := congrArg List.length Hsp.out
        rw [List.length_append, List.length_cons, HA1.out] at h3
        rw [hlen] at h1
        exact List.length_eq_zero_iff.1 (by omega)
      have hDc : ∀ cs t fr, Obj.deferred (some []) ≠ .cells cs t fr := fun cs t fr e => by cases e
      have hDb : base ≤ W2.heap.size := by have := hF2.2.2.2.size; omega
      by_cases hle : ((r.l.length : Int) + 1) ≤ b
      · refine wpAt_of_wp ?_
        go_wp2
        refine ⟨by simp, .inl ⟨_, _, rfl, run_takeDeferred hD4, ?_⟩⟩
        refine ⟨_, results_tmp rfl _ _ _, _, A1 ++ ⟨h', c', insI r.l p k⟩ :: B1, rfl, ?_, ?_, ?_, ?_⟩
        · exact hO4.putD (o' := .deferred none) hD4 hDc
        · rw [hres]
          unfold splitF
          rw [if_pos (by rw [hil]; omega)]
          simp
        · exact Below.grown hB4 (grownBy_putObj' _ _ _) (Nat.le_trans hbase hB4.size) (fun i hi => by injection hi with hi; omega)
        · intro e
          rw [hlast e]
          refine ⟨A1, _, rfl, ?_⟩
          exact hT4.kept (grownBy_putObj' _ _ _) ((hO4.ne hD4 hDc).2 _ (by simp))
      · have hb2 := roomB_t hb
        have hrb : (r.l.length : Int) ≤ b := by
          have h1 := (hblk r.l (by rw [Hsp.out]; simp)).2
          exact h1
        obtain ⟨n0, hn0⟩ : ∃ n0 : Nat, (b + 2) / 2 = (n0 : Int) := ⟨((b + 2) / 2).toNat, by omega⟩
        have hhalf : ∀ W, Calls Tryd.prog 42 #[.int .i64 (b + 2)] W fun e w' => e = .returned (.int .i64 n0) ∧ W = w' := fun W => by
          have := half_any (b + 2) W (by omega) (by omega)
          rw [hn0] at this
          exact this
        have w1 : IntKind.i64.wrap (b + 2) = b + 2 := IntWalk.i64_in _ ⟨by omega, by omega⟩
        have hc1 : r.l.length + 1 ≤ c' := by
          obtain ⟨_, cur, _, h1, _⟩ := hT4.inB
          simp only [hil] at h1
          exact h1
        have hcm : c' ≤ 9223372036854775807 := by
          obtain ⟨_, cur, _, _, _, h1, _⟩ := hT4.inB
          exact h1
        have hn1 : n0 < r.l.length + 1 := by omega
        have hn2 : 0 < n0 := by omega
        have Hn0 := Lib.hid hn0
        have hnc : (n0 : Int) ≤ c' := by omega
        have hnl : (n0 : Int) ≤ (r.l.length : Int) + 1 := by omega
        have hnl2 : n0 ≤ r.l.length + 1 := by omega
        have hne0 : ¬ c' = n0 := by omega
        clear hn0 hrb
        have hclone : ∀ Wd, Ext W4 Wd → Calls Tryd.prog 43 #[.slice (some ⟨h', n0, none⟩) (r.l.length + 1 - n0) (c' - n0)] Wd fun e w' => ∃ g2 c2, e = .returned (.slice (some ⟨g2, 0, none⟩) (r.l.length + 1 - n0) c2) ∧ TightB w' Wd.heap.size ⟨g2, c2, (insI r.l p k).drop n0⟩ ∧ Ext Wd w' := fun Wd hx => by
          have h1 := (hT4.ext hx).inB.slI
          have hl : ((insI r.l p k).drop n0).length = r.l.length + 1 - n0 := by rw [List.length_drop, hil]
          have := clone_any (some ⟨h', n0, none⟩) (c' - n0) ((insI r.l p k).drop n0) Wd ⟨fun i hi => by
            obtain ⟨b1, o1, e1, c1⟩ := h1.at_ (n0 + i) (show n0 + i < (insI r.l p k).length by omega)
            simp only [Option.some.injEq, Addr.mk.injEq, and_true] at e1
            obtain ⟨rfl, rfl⟩ := e1
            refine ⟨h', n0, rfl, ?_⟩
            rw [Nat.zero_add] at c1
            rw [c1]
            simp [nthI, List.getD_eq_getElem?_getD, List.getElem?_drop], by rw [hl]; omega, by omega⟩ (fun e => by have := congrArg List.length e; rw [hl] at this; simp at this; omega) (by omega)
          rw [hl] at this
          exact this
        refine wpAt_seq_k (fun K hK => ?_)
        go_wp2_with (go_at_call 42; refine (hhalf _).mono ?_; rintro e w4 ⟨rfl, rfl⟩)
        refine wpAt_seq_k (fun K hK => ?_)
        go_wp2_with (go_at_call 42; refine (hhalf _).mono ?_; rintro e w4 ⟨rfl, rfl⟩)
        refine wpAt_seq_k (fun K hK => ?_)
        go_wp2_with (go_at_call 42; refine (hhalf _).mono ?_; rintro e w4 ⟨rfl, rfl⟩)
        go_region_held3 (fun w' => w'.cell? ⟨A, 0, none⟩ = some (.int .i64 q) ∧ w'.cell? ⟨g, q, none⟩ = some (.slice (some ⟨h', 0, none⟩) (r.l.length + 1) c')) (go_keep)
          (first | (go_at_call 43; refine (hclone _ (by exact (Ext.refl _).drew)).mono ?_; rintro e w5 ⟨g2, c2, rfl, hT5, hx5⟩; have x1 := hx5.cell a1; have x3 := hx5.cell a3))
        all_goals refine hK _ _ ?_
        all_goals clear hK
        have hx4 : Ext W4 w5 := ((Ext.refl W4).drew).trans hx5
        have x4 := hx4.frozen a3 a4
        have hO5 := (hO4.ext hx4).set_ (r' := ⟨h', n0, (insI r.l p k).take n0⟩) (Upd.refl w5 h') ((hT4.ext hx4).inB.head n0 (by simp only [hil]; omega)) (.inl rfl)
        have hlt0 : ((insI r.l p k).take n0).length = n0 := by rw [List.length_take]; omega
        rw [HA1.out] at hO5
        simp only [Row.v, hlt0] at hO5
        have hB6 : Below base w (w5.setCell ⟨g, q, none⟩ (.slice (some ⟨h', 0, none⟩) n0 n0)) := Below.setCell (Below.trans hB4 (Below.mono hx4 (Nat.le_trans hbase hB4.size))) hbg _
        have hD6 : (w5.setCell ⟨g, q, none⟩ (.slice (some ⟨h', 0, none⟩) n0 n0)).heap[W2.heap.size]? = some (.deferred (some [])) := (Below.heap_setCell _ _ _ _ (fun e => (hO4.ne hD4 hDc).1 (by rw [e]; rfl))).trans (hx4.heap hD4)
        have hg2 : W4.heap.size ≤ g2 := hT5.inB.1
        have hgl4 : g < W4.heap.size := (hO4.out.lt g rfl).2
        have hT6 : TightB (w5.setCell ⟨g, q, none⟩ (.slice (some ⟨h', 0, none⟩) n0 n0)) base ⟨g2, c2, (insI r.l p k).drop n0⟩ := (hT5.same (Below.heap_setCell _ _ _ _ (by simp only; omega))).down (Nat.le_trans (Nat.le_trans hbase hB4.size) (Nat.le_refl _))
        have hb1 : (w5.setCell ⟨g, q, none⟩ (.slice (some ⟨h', 0, none⟩) n0 n0)).cell? ⟨A, 0, none⟩ = some (.int .i64 q) := by rw [World.cell?_setCell_far _ _ _ _ (Ne.symm n1)]; exact x1
        have hrows : ∀ x ∈ A1 ++ (⟨h', n0, (insI r.l p k).take n0⟩ : Row) :: B1, x.h ≠ g2 := fun x hx => by
          have : x.h < W4.heap.size := by
            rcases List.mem_append.1 hx with hx | hx
            · exact hO4.lt (by simp [hx])
            · rcases List.mem_cons.1 hx with rfl | hx
              · exact hO4.lt (r := ⟨h', c', insI r.l p k⟩) (by simp)
              · exact hO4.lt (by simp [hx])
          omega
        have hld : ((insI r.l p k).drop n0).length = r.l.length + 1 - n0 := by rw [List.length_drop, hil]
        obtain ⟨W6, hW6⟩ : ∃ W6, w5.setCell ⟨g, q, none⟩ (.slice (some ⟨h', 0, none⟩) n0 n0) = W6 := ⟨_, rfl⟩
        rw [hW6] at hO5 hB6 hD6 hT6 hb1
        have hDl6 : W2.heap.size < W6.heap.size := (Array.getElem?_eq_some_iff.1 hD6).1
        have hins : ∀ Wd vb, Ext W6 Wd → Wd.heap[vb]? = some (.cells #[.slice (some ⟨g2, 0, none⟩) (r.l.length + 1 - n0) c2] 31 (0, 0)) → W6.heap.size ≤ vb →
            Calls Tryd.prog 44 #[.slice (some ⟨g, 0, none⟩) RR.length cap, .int .i64 ((q : Int) + 1), .slice (some ⟨vb, 0, none⟩) 1 1] Wd fun e w' =>
              ∃ v', e = .returned v' ∧ OwnA w' base v' (A1 ++ (⟨h', n0, (insI r.l p k).take n0⟩ : Row) :: ⟨g2, c2, (insI r.l p k).drop n0⟩ :: B1) ∧ TightB w' base ⟨g2, c2, (insI r.l p k).drop n0⟩ ∧ Below base w w' ∧ w'.heap[W2.heap.size]? = some (.deferred (some [])) := fun Wd vb hx hv hvb => by
          have e0 : A1 ++ (⟨h', n0, (insI r.l p k).take n0⟩ : Row) :: B1 = (A1 ++ [⟨h', n0, (insI r.l p k).take n0⟩]) ++ B1 := by simp
          have h1 := hO5.ext hx
          rw [e0] at h1 hrows
          have hlA : (A1 ++ [(⟨h', n0, (insI r.l p k).take n0⟩ : Row)]).length = q + 1 := by simp [HA1.out]
          have hlR : ((A1 ++ [(⟨h', n0, (insI r.l p k).take n0⟩ : Row)]) ++ B1).length = RR.length := by rw [← e0, ← hlq]; simp
          have g5 : (Value.slice (some ⟨g, 0, none⟩) RR.length cap).ownBlock ≠ some g2 := fun e => by
            simp only [Value.ownBlock, Option.some.injEq] at e
            omega
          have g6 : (Value.slice (some ⟨g, 0, none⟩) RR.length cap).ownBlock ≠ some vb := fun e => by
            simp only [Value.ownBlock, Option.some.injEq] at e
            have := (hO5.out.lt g rfl).2
            omega
          have g7 := len_le_flat _ hne
          have h2 := OwnA.insert (vb := vb) (r2 := ⟨g2, c2, (insI r.l p k).drop n0⟩) h1 (hT6.ext hx) hrows g5 (by rw [hv]; simp only [Row.v, hld]) g6 (by have := hB6.size; have := hx.size; omega) (by rw [hlR]; omega)
          rw [hlA] at h2
          refine h2.mono ?_
          rintro e w' ⟨v', rfl, g1, g3, g4⟩
          refine ⟨v', rfl, by simpa using g1, g3, Below.grown (Below.trans hB6 (Below.mono hx (Nat.le_trans hbase hB6.size))) g4 (by have := hB6.size; have := hx.size; omega) (fun i hi => by simp [Value.ownBlock] at hi; omega), ?_⟩
          exact (g4.block _ (by have := hx.size; omega) (fun e => (h1.ne (hx.heap hD6) hDc).1 e.symm)).trans (hx.heap hD6)
        have w2 : IntKind.i64.wrap ((q : Int) + 1) = (q : Int) + 1 := IntWalk.i64_in _ ⟨by omega, by omega⟩
        have hfin : splitF b (insI r.l p k) = [(insI r.l p k).take n0, (insI r.l p k).drop n0] := by
          unfold splitF
          rw [if_neg (by rw [hil]; omega), Hn0.out]
          rfl
        have Hfin := Lib.hid hfin
        have HW6 := Lib.hid hW6
        clear hfin hW6 hT6 hT5 hx5 hO4 hB4 hD4 hT4 hclone hhalf hld hlt0
        clear hO5 hrows hB6 hD6 hDb hlq hil hc1 hcm hnc hnl hnl2 hne0 hle hbr hgw hrw hh4 a1 a3 a4 hlen hjl hrl hF2 hC hb0 hx0 d3 d4 hp hrl2 hrg n3 n4 hX hq n5 n6 n7 hDl6 hgl4 hg2
        refine wpAt_seq_k (fun K hK => ?_)
        go_wp2
        rw [HW6.out]
        clear x1 x3 x4 hx4 HW6 hn1 hn2 w1
        refine wpAt_of_wp ?_
        go_wp2_with (go_at_call 44; refine (hins _ _ (by exact (Ext.refl _).alloc _) (by exact World.alloc_heap_new _ _) (Nat.le_refl _)).mono ?_; rintro e w8 ⟨v8, rfl, g1, g3, g4, g5⟩)
        have hDb : base ≤ W2.heap.size := by have := HC.out; omega
        refine ⟨by simp, .inl ⟨_, _, rfl, run_takeDeferred g5, ?_⟩⟩
        refine ⟨_, results_tmp rfl _ _ _, v8, A1 ++ (⟨h', n0, (insI r.l p k).take n0⟩ : Row) :: ⟨g2, c2, (insI r.l p k).drop n0⟩ :: B1, rfl, ?_, ?_, ?_, ?_⟩
        · exact g1.putD (o' := .deferred none) g5 hDc
        · rw [hres, Hfin.out]
          simp
        · exact Below.grown g4 (grownBy_putObj' _ _ _) (Nat.le_trans hbase g4.size) (fun i hi => by injection hi with hi; omega)
        · intro e
          rw [hlast e]
          exact ⟨A1 ++ [⟨h', n0, (insI r.l p k).take n0⟩], _, by simp, g3.kept (grownBy_putObj' _ _ _) ((g1.ne g5 hDc).2 ⟨g2, c2, (insI r.l p k).drop n0⟩ (by simp))⟩
end Go.Proofs.YtgdbhmdhonnmgaaDoor
