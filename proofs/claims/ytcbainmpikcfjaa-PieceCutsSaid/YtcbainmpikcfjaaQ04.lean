/- Cells; MathA (merged by group.py) -/
import Derived.Test.YtcbainmpikcfjaaQ03
import Derived.Maps.AppendAt
namespace Go.Proofs.Ytcbainmpikcfjaa
section
open Go.RowKit
set_option linter.unusedVariables false
set_option maxRecDepth 20000
attribute [local go_sem] Oper.semAt_some

instance (p : ByteArray) (k : Nat) : Decidable (goodS p k) := by unfold goodS; exact inferInstance
/-- a page, by the bytes -/
def ValidR (p : ByteArray) : Prop := headR p ∧ goodS p (twoF p 0) ∧ lastS p (twoF p 0) = twoF p 0 ∧ ∀ j, j < topF p (twoF p 0) → 2 + 4 * twoF p 0 ≤ j → bt p j = 0
instance (p : ByteArray) : Decidable (ValidR p) := by unfold ValidR headR; exact inferInstance

theorem WrongR.ok {p : ByteArray} {a e : Nat} (h : WrongR p a e) : e = 0 ↔ ValidR p := by
  unfold ValidR
  rcases h with ⟨h, _, he⟩ | ⟨_, h, _, he⟩ | ⟨_, ⟨k, hk, hg, hb, _⟩, he⟩ | ⟨_, _, h, _, he⟩ | ⟨_, _, _, ⟨i, h1, h2, _, h3, _⟩, he⟩ | ⟨h1, h2, h3, h4, _, he⟩
  · exact ⟨fun h0 => by omega, fun h0 => by have := h0.1.1; rw [h] at this; cases this⟩
  · exact ⟨fun h0 => by omega, fun h0 => absurd h0.1.2 h⟩
  · exact ⟨fun h0 => by omega, fun h0 => absurd hb (h0.2.1 k hk)⟩
  · exact ⟨fun h0 => by omega, fun h0 => by have := h0.2.2.1; omega⟩
  · exact ⟨fun h0 => by omega, fun h0 => absurd (h0.2.2.2 i h2 h1) h3⟩
  · exact ⟨fun _ => ⟨h1, h2, h3, fun j g1 g2 => h4 j g2 g1⟩, fun _ => he⟩

theorem valid_any (p : ByteArray) (w : World) (hp : p.size ≤ 140737488355328) :
    Calls Try.prog 48 #[.string p] w fun e w' => e = .returned (.bool (decide (ValidR p))) ∧ Ext w w' := by
  obtain ⟨a, e, hw, hc⟩ := wrong_any p w hp
  have hok := hw.ok
  go_enter Try.func48, Try.ntmps48
  go_wp2_with (go_at_call 61; refine hc.mono ?_; rintro e w1 ⟨rfl, hx⟩)
  go_ret
  refine ⟨ret_bool ?_, hx⟩
  by_cases hv : ValidR p
  · have := hok.2 hv
    subst this
    simp [hv]
  · have : ¬ e = 0 := fun h => hv (hok.1 h)
    simp [hv]
    omega

/-- slot k as a cell -/
def cellS (p : ByteArray) (k : Nat) : Cel := ((k : Int) + 1, p.extract (twoF p (2 + 4 * k)) (twoF p (2 + 4 * k) + twoF p (4 + 4 * k)))
def celV (c : Cel) : Value := .agg #[.int .i64 c.1, .string c.2]

theorem cell_any (p : ByteArray) (k c : Nat) (w : World) (hp : p.size ≤ 4096) (hc : w.cell? ⟨c, 0, none⟩ = some (.string p)) (hk : k < 65536) (hs : twoF p (2 + 4 * k) + twoF p (4 + 4 * k) ≤ p.size) :
    Calls Try.prog 65 #[slotV p k, .pointer (some ⟨c, 0, none⟩)] w fun e w' => e = .returned (celV (cellS p k)) ∧ Ext w w' := by
  unfold slotV cellS celV
  have c1 : twoF p (2 + 4 * k) < 65536 := by have := bt_lt p (2 + 4 * k); have := bt_lt p (2 + 4 * k + 1); unfold twoF; omega
  generalize twoF p (2 + 4 * k) = off at *
  generalize twoF p (4 + 4 * k) = len at *
  have h1 : (0 : Int) ≤ off := by omega
  have h2 : (off : Int) ≤ off + len := by omega
  have h3 : (off : Int) + len ≤ p.size := by omega
  have hlt := block_lt hc
  have hws : IntKind.i64.wrap ((off : Int) + len) = off + len := IntWalk.i64_in _ ⟨by omega, by omega⟩
  have ht1 : ((off : Int) + len).toNat = off + len := by omega
  go_enter Try.func65, Try.ntmps65
  go_wp2
  have hn1 : ((w.alloc (.cells #[.int .i64 (k + 1), .int .i64 (off), .int .i64 (len)] 113)).alloc (.cells #[.int .i64 0, .string ⟨#[]⟩] 91)).heap[w.heap.size]? = some (.cells #[.int .i64 (k + 1), .int .i64 (off), .int .i64 (len)] 113 (0, 0)) :=
    (Below.heap_alloc _ _ _ (by simp)).trans (World.alloc_heap_new w _)
  have hn2 : ((w.alloc (.cells #[.int .i64 (k + 1), .int .i64 (off), .int .i64 (len)] 113)).alloc (.cells #[.int .i64 0, .string ⟨#[]⟩] 91)).heap[w.heap.size + 1]? = some (.cells #[.int .i64 0, .string ⟨#[]⟩] 91 (0, 0)) := by
    have := World.alloc_heap_new (w.alloc (.cells #[.int .i64 (k + 1), .int .i64 (off), .int .i64 (len)] 113)) (.cells #[.int .i64 0, .string ⟨#[]⟩] 91)
    rwa [World.size_alloc] at this
  have hx : Ext w ((w.alloc (.cells #[.int .i64 (k + 1), .int .i64 (off), .int .i64 (len)] 113)).alloc (.cells #[.int .i64 0, .string ⟨#[]⟩] 91)) := ((Ext.refl w).alloc _).alloc _
  have hc' := hx.cell hc
  generalize (w.alloc (.cells #[.int .i64 (k + 1), .int .i64 (off), .int .i64 (len)] 113)).alloc (.cells #[.int .i64 0, .string ⟨#[]⟩] 91) = w1 at *
  have g0 : w1.cell? ⟨w.heap.size, 0, none⟩ = some (.int .i64 (k + 1)) := by simp [World.cell?, hn1]
  have g1 : w1.cell? ⟨w.heap.size, 1, none⟩ = some (.int .i64 (off)) := by simp [World.cell?, hn1]
  have g2 : w1.cell? ⟨w.heap.size, 2, none⟩ = some (.int .i64 (len)) := by simp [World.cell?, hn1]
  have g3 : w1.cell? ⟨w.heap.size + 1, 0, none⟩ = some (.int .i64 0) := by simp [World.cell?, hn2]
  have g4 : w1.cell? ⟨w.heap.size + 1, 1, none⟩ = some (.string ⟨#[]⟩) := by simp [World.cell?, hn2]
  have f3 : w1.frozen? ⟨w.heap.size + 1, 0, none⟩ = false := by simp [World.frozen?, hn2]
  have f4 : w1.frozen? ⟨w.heap.size + 1, 1, none⟩ = false := by simp [World.frozen?, hn2]
  have hd : w.heap.size ≤ w.heap.size + 1 := by omega
  have hd' : ((k : Int) + 1).toNat = k + 1 := by omega
  clear hn1 hn2 hc
  have hE : ∀ u v, Ext w (((w1.setCell ⟨w.heap.size + 1, 0, none⟩ u).setCell ⟨w.heap.size + 1, 1, none⟩ v).drew) := fun u v => ((hx.setCell hd _).setCell hd _).drew
  generalize w.heap.size = d at *
  have n1 : ¬ c = d + 1 := by omega
  have n2 : ¬ d + 1 = c := by omega
  go_region_held3 (fun w' => w'.cell? ⟨d, 0, none⟩ = some (.int .i64 (k + 1)) ∧ w'.cell? ⟨d, 1, none⟩ = some (.int .i64 off) ∧ w'.cell? ⟨d, 2, none⟩ = some (.int .i64 len) ∧ w'.cell? ⟨c, 0, none⟩ = some (.string p)) (go_keep) (fail)
  all_goals go_wp2
  all_goals exact bodyPost_ret (v := .agg #[.int .i64 (k + 1), .string (p.extract off (off + len))]) (by simp [results, Try.results65, go_sem, g3, g4]) rfl ⟨rfl, hE _ _⟩

/-- the used slots among the first k, as cells -/
def usedL (p : ByteArray) : Nat → List Cel
  | 0 => []
  | k + 1 => if twoF p (4 + 4 * k) = 0 then usedL p k else usedL p k ++ [cellS p k]
def flatC (l : List Cel) : List Value := l.flatMap fun c => [.int .i64 c.1, .string c.2]
theorem flatC_length (l : List Cel) : (flatC l).length = l.length * 2 := by
  induction l with
  | nil => rfl
  | cons c l ih => simp [flatC] at ih ⊢; omega
theorem flatC_snoc (l : List Cel) (c : Cel) : flatC (l ++ [c]) = flatC l ++ [.int .i64 c.1, .string c.2] := by simp [flatC]
theorem usedL_length (p : ByteArray) (k : Nat) : (usedL p k).length ≤ k := by
  induction k with
  | zero => simp [usedL]
  | succ k ih =>
    unfold usedL
    split
    · omega
    · simp; omega
theorem Try.infoC : (Try.prog.info? 91).map (fun i => (i.zero, i.size, i.bytes)) = some (some (.agg #[.int .i64 0, .string ⟨#[]⟩]), 2, 24) := by kernel_rfl

theorem ownsRow_ext {A B : World} {base : Nat} {e : TypeId} {size : Nat} {v : Value} {n : Nat} {xs : List Value} (h : A.ownsRow base e size v n xs) (hx : Ext A B) : B.ownsRow base e size v n xs := by
  refine ⟨h.1, ?_⟩
  rcases h.2 with h0 | ⟨g, cap, cur, hv, hb, hg, rest⟩
  · exact .inl h0
  · exact .inr ⟨g, cap, cur, hv, hb, hx.heap hg, rest⟩
theorem ownsRow_upd {A B : World} {base : Nat} {e : TypeId} {size : Nat} {v : Value} {n : Nat} {xs : List Value} {k : Nat} (h : A.ownsRow base e size v n xs) (hx : Upd A k B) (hk : k < base) : B.ownsRow base e size v n xs := by
  refine ⟨h.1, ?_⟩
  rcases h.2 with h0 | ⟨g, cap, cur, hv, hb, hg, rest⟩
  · exact .inl h0
  · exact .inr ⟨g, cap, cur, hv, hb, hx.heap hg (by omega), rest⟩
theorem ownsRow_base {A : World} {base base' : Nat} {e : TypeId} {size : Nat} {v : Value} {n : Nat} {xs : List Value} (h : A.ownsRow base e size v n xs) (hb' : base' ≤ base) : A.ownsRow base' e size v n xs := by
  refine ⟨h.1, ?_⟩
  rcases h.2 with h0 | ⟨g, cap, cur, hv, hb, rest⟩
  · exact .inl h0
  · exact .inr ⟨g, cap, cur, hv, by omega, rest⟩

theorem two_cells (w : World) (x y : Value) (t : TypeId) : ∀ j u, [x, y][j]? = some u → (w.alloc (.cells #[x, y] t)).cell? ((⟨w.heap.size, 0, none⟩ : Addr).add j) = some u := by
  intro j u hj
  match j, hj with
  | 0, hj =>
    simp at hj
    subst hj
    simp [Addr.add]
  | 1, hj =>
    simp at hj
    subst hj
    simp [Addr.add]
theorem append_cell (w : World) (base : Nat) (v : Value) (n : Nat) (xs : List Value) (hown : w.ownsRow base 91 2 v n xs) (a : Addr) (x y : Value) (hnews : ∀ j u, [x, y][j]? = some u → w.cell? (a.add j) = some u)
    (h1 : x.oneCell' = true) (h2 : y.oneCell' = true) (hn : n ≤ 1024) (hbase : base ≤ w.heap.size) :
    ∃ v' w', (Builtin.append_ #[89, 89] 89 #[v, .slice (some a) 1 1]).run Try.prog w = .ok v' w' ∧ w'.ownsRow base 91 2 v' (n + 1) (xs ++ [x, y]) ∧ w.grownBy w' v.ownBlock ∧
      (v' = .slice none 0 0 ↔ v = .slice none 0 0 ∧ 1 = 0) ∧ (v'.ownBlock = v.ownBlock ∨ v'.ownBlock = some w.heap.size) := by
  obtain ⟨i0, hi, hz0, hz1, hz2⟩ := info_parts Try.infoC
  exact run_append_own_at (P := Try.prog) w base 89 89 91 i0 _ 2 24 Try.underlying89 hi hz0 hz1 hz2 rfl (by decide) v n xs hown a 1 1 [x, y] rfl hnews (by simp [h1, h2]) (by simp only [maxLen]; omega) (by omega) hbase

set_option maxRecDepth 20000 in
set_option maxHeartbeats 2000000 in
theorem gather_any (p : ByteArray) (d : Nat) (w : World) (h32 : 32 ≤ p.size) (hp : p.size ≤ 4096) (hN : 2 + 4 * twoF p 0 ≤ p.size) (hd : w.cell? ⟨d, 0, none⟩ = some (.string p))
    (hs : ∀ k, k < twoF p 0 → twoF p (2 + 4 * k) + twoF p (4 + 4 * k) ≤ p.size) :
    Calls Try.prog 64 #[.string p, .func (.func 65) #[] #[.pointer (some ⟨d, 0, none⟩)]] w fun e w' => ∃ v, e = .returned v ∧ w'.ownsRow w.heap.size 91 2 v (usedL p (twoF p 0)).length (flatC (usedL p (twoF p 0))) ∧ Ext w w' := by
  have hdl := block_lt hd
  refine calls_of_wpAt Try.func64 rfl ?_
  simp only [Try.ntmps64, List.size_toArray, List.length_cons, List.length_nil, Nat.reduceAdd, Nat.reduceSub, Array.replicate_succ, Array.replicate_zero, List.push_toArray, List.append_toArray, List.nil_append, List.cons_append]
  refine wpAt_seq_k (fun K hK => ?_)
  go_wp2
  refine wpAt_seq_k (fun K hK => ?_)
  go_wp2
  refine wpAt_seq ?_
  refine wpAt_seq_k (fun K hK => ?_)
  go_wp2_with (go_at_call 73; refine (slots_any p _).mono ?_; rintro e w1 ⟨rfl, rfl⟩)
  obtain ⟨W1, hW1⟩ : ∃ W1, (((w.alloc (.cells #[.func (.func 65) #[] #[.pointer (some ⟨d, 0, none⟩)]] 114)).alloc (.cells #[.slice none 0 0] 89)).alloc (.cells #[.string p] 9)) = W1 := ⟨_, rfl⟩
  have hb1 : Boxed W1 w.heap.size 114 (.func (.func 65) #[] #[.pointer (some ⟨d, 0, none⟩)]) := by
    rw [← hW1]; exact ((Boxed.new _ _ _).alloc _).alloc _
  have hb2 : Boxed W1 (w.heap.size + 1) 89 (.slice none 0 0) := by
    rw [← hW1]
    have := Boxed.new (w.alloc (.cells #[.func (.func 65) #[] #[.pointer (some ⟨d, 0, none⟩)]] 114)) 89 (.slice none 0 0)
    rw [World.size_alloc] at this
    exact this.alloc _
  have hb3 : Boxed W1 (w.heap.size + 2) 9 (.string p) := by
    rw [← hW1]
    have := Boxed.new ((w.alloc (.cells #[.func (.func 65) #[] #[.pointer (some ⟨d, 0, none⟩)]] 114)).alloc (.cells #[.slice none 0 0] 89)) 9 (.string p)
    rw [World.size_alloc, World.size_alloc] at this
    exact this
  have hsz : W1.heap.size = w.heap.size + 3 := by rw [← hW1]; simp [World.size_alloc]
  have hx0 : Ext w W1 := by rw [← hW1]; exact (((Ext.refl w).alloc _).alloc _).alloc _
  rw [hW1]
  clear hW1
  refine wpAt_block ?_
  refine wpAt_rangeFunc (hf := Try.func64) (gf := 77) (lb := #[.pointer (some ⟨w.heap.size + 2, 0, none⟩)]) rfl (enters_of Try.func77 (by kernel_rfl) rfl)
    (slots_seq p _ (by omega) (by omega) hN) (fun _ => rfl)
    (fun i W => Boxed W w.heap.size 114 (.func (.func 65) #[] #[.pointer (some ⟨d, 0, none⟩)]) ∧ Boxed W (w.heap.size + 2) 9 (.string p) ∧ Ext w W ∧
      ∃ v, Boxed W (w.heap.size + 1) 89 v ∧ W.ownsRow (w.heap.size + 5) 91 2 v (usedL p i).length (flatC (usedL p i)))
    (fun _ _ _ => False)
    (fun _ _ _ => False)
    (fun i A B ⟨h1, h3, h4, v, h5, h6⟩ hx => ⟨hx.heap h1, hx.heap h3, h4.trans hx, v, hx.heap h5, ownsRow_ext h6 hx⟩)
    (fun _ _ _ _ h _ => h)
    (fun i A B ⟨h1, h3, h4, v, h5, h6⟩ hx => ⟨hx.heap h1 (by omega), hx.heap h3 (by omega), Upd.ext h4 hx (by omega), v, hx.heap h5 (by omega), ownsRow_upd h6 hx (by omega)⟩)
    (fun _ _ _ _ h _ => h)
    (fun i A h => h.2.1.cell)
    ⟨hb1, hb3, hx0, _, hb2, World.ownsRow_nil _ _ _ _⟩ ?round ?done (fun _ _ _ _ h _ => h.elim) (fun _ _ _ _ h _ => h.elim)
  case round =>
    rintro i W ⟨h1, h3, hx, v, h2, hown⟩ hW hi
    have hsi := hs i hi
    have hul := usedL_length p i
    have hlen : (slotV p i) = .agg #[.int .i64 (i + 1), .int .i64 (twoF p (2 + 4 * i)), .int .i64 (twoF p (4 + 4 * i))] := rfl
    have c2 : twoF p (4 + 4 * i) < 65536 := by have := bt_lt p (4 + 4 * i); have := bt_lt p (4 + 4 * i + 1); unfold twoF; omega
    have eu : usedL p (i + 1) = if twoF p (4 + 4 * i) = 0 then usedL p i else usedL p i ++ [cellS p i] := rfl
    have hcall : ∀ W, W.cell? ⟨d, 0, none⟩ = some (.string p) → Calls Try.prog 65 #[.agg #[.int .i64 (i + 1), .int .i64 (twoF p (2 + 4 * i)), .int .i64 (twoF p (4 + 4 * i))], .pointer (some ⟨d, 0, none⟩)] W fun e w' => e = .returned (.agg #[.int .i64 (i + 1), .string (cellS p i).2]) ∧ Ext W w' :=
      fun W hW => cell_any p i d W hp hW (by omega) hsi
    simp only [slotV]
    gi_wp2
    have hxa : Ext W (W.alloc (.cells #[.int .i64 (i + 1), .int .i64 (twoF p (2 + 4 * i)), .int .i64 (twoF p (4 + 4 * i))] 113)) := (Ext.refl W).alloc _
    have hn5 : (W.alloc (.cells #[.int .i64 (i + 1), .int .i64 (twoF p (2 + 4 * i)), .int .i64 (twoF p (4 + 4 * i))] 113)).heap[W.heap.size]? = some (.cells #[.int .i64 (i + 1), .int .i64 (twoF p (2 + 4 * i)), .int .i64 (twoF p (4 + 4 * i))] 113 (0, 0)) := World.alloc_heap_new _ _
    refine ⟨hxa.block (by omega), hxa.block (by omega), ?_⟩
    intro W2 hu2 hs2
    replace hn5 := hu2.heap hn5 (by omega)
    replace h1 : Boxed W2 _ _ _ := hu2.heap (hxa.heap h1) (by omega)
    replace h2 : Boxed W2 _ _ _ := hu2.heap (hxa.heap h2) (by omega)
    replace h3 : Boxed W2 _ _ _ := hu2.heap (hxa.heap h3) (by omega)
    replace hown := ownsRow_upd (ownsRow_ext hown hxa) hu2 (by omega)
    replace hx := Upd.ext (hx.trans hxa) hu2 (by omega)
    have hd2 := hx.cell hd
    have hsz2 : w.heap.size + 5 ≤ W2.heap.size := by have := hu2.size; have := hxa.size; omega
    have g0 : W2.cell? ⟨W.heap.size, 0, none⟩ = some (.int .i64 (i + 1)) := by simp [World.cell?, hn5]
    have g1 : W2.cell? ⟨W.heap.size, 1, none⟩ = some (.int .i64 (twoF p (2 + 4 * i))) := by simp [World.cell?, hn5]
    have g2 : W2.cell? ⟨W.heap.size, 2, none⟩ = some (.int .i64 (twoF p (4 + 4 * i))) := by simp [World.cell?, hn5]
    have q1 := h1.cell
    have q2 := h2.cell
    clear hu2 hs2 hxa
    generalize W.heap.size = c5 at *
    by_cases hl0 : twoF p (4 + 4 * i) = 0
    · rw [if_pos hl0] at eu
      rw [hl0] at g2
      gi_wp2
      exact ⟨rfl, rfl, h1, h3, hx, v, h2, by rw [eu]; exact hown⟩
    · rw [if_neg hl0] at eu
      have hl1 : (0 : Int) < twoF p (4 + 4 * i) := by omega
      have hE := Lib.hid eu
      clear eu
      generalize twoF p (4 + 4 * i) = len at *
      generalize twoF p (2 + 4 * i) = off at *
      gi_wp2
      have hne : ∀ g, v.ownBlock = some g → g ≠ c5 ∧ g ≠ w.heap.size ∧ g ≠ w.heap.size + 1 ∧ g ≠ w.heap.size + 2 ∧ g ≠ w.heap.size + 3 ∧ g ≠ w.heap.size + 4 := by
        intro g hg
        have hge := (hown.lt g hg).1
        refine ⟨?_, by omega, by omega, by omega, by omega, by omega⟩
        rcases hown.2 with ⟨hv, _⟩ | ⟨g', cap, cur, hv, _, hgh, _⟩
        · rw [hv] at hg; simp [Value.ownBlock] at hg
        · rw [hv] at hg
          simp [Value.ownBlock] at hg
          subst hg
          intro e
          subst e
          rw [hgh] at hn5
          simp at hn5
      have hc5l : c5 < W2.heap.size := block_lt g0
      have hcells : ∀ W, W2.grownBy W v.ownBlock → W.cell? ⟨w.heap.size, 0, none⟩ = some (.func (.func 65) #[] #[.pointer (some ⟨d, 0, none⟩)]) ∧
        W.cell? ⟨c5, 0, none⟩ = some (.int .i64 (i + 1)) ∧ W.cell? ⟨c5, 1, none⟩ = some (.int .i64 off) ∧ W.cell? ⟨c5, 2, none⟩ = some (.int .i64 len) := fun W hg => by
        have e1 : W.cell? ⟨w.heap.size, 0, none⟩ = W2.cell? ⟨w.heap.size, 0, none⟩ := World.cell?_of_block (hg.block _ (block_lt q1) (fun e => (hne _ e.symm).2.1 rfl))
        have e2 : ∀ j, W.cell? ⟨c5, j, none⟩ = W2.cell? ⟨c5, j, none⟩ := fun j => World.cell?_of_block (hg.block _ hc5l (fun e => (hne _ e.symm).1 rfl))
        exact ⟨e1.trans q1, (e2 0).trans g0, (e2 1).trans g1, (e2 2).trans g2⟩
      refine wpIn_round_held (fun W => W.cell? ⟨w.heap.size, 0, none⟩ = some (.func (.func 65) #[] #[.pointer (some ⟨d, 0, none⟩)]) ∧
        W.cell? ⟨c5, 0, none⟩ = some (.int .i64 (i + 1)) ∧ W.cell? ⟨c5, 1, none⟩ = some (.int .i64 off) ∧ W.cell? ⟨c5, 2, none⟩ = some (.int .i64 len)) (by kernel_rfl) (by rintro ⟨a, w, h⟩; exact h) (by kernel_rfl) ?_
      refine wpAnyH_take (i := 1) (v := .func (.func 65) #[] #[.pointer (some ⟨d, 0, none⟩)]) (fuel := 6) rfl (by kernel_rfl) (by kernel_rfl) (by kernel_rfl) (fun _ _ _ h => h) (.inl ⟨rfl, fun W hS => by obtain ⟨e2, e3, e4, e5⟩ := hS; go_simp⟩) ⟨q1, g0, g1, g2⟩ ?_
      refine wpAnyH_take (i := 2) (v := .agg #[.int .i64 (i + 1), .int .i64 off, .int .i64 len]) (fuel := 5) rfl (by kernel_rfl) (by kernel_rfl) (by kernel_rfl) (fun _ _ _ h => h) (.inl ⟨rfl, fun W hS => by obtain ⟨e2, e3, e4, e5⟩ := hS; go_simp⟩) ⟨q1, g0, g1, g2⟩ ?_
      refine wpAnyH_two (i := 0) (j := 3) (fuel := 4) rfl rfl (by kernel_rfl) rfl rfl (fun K' hK => ?_) (fun K' hK => ?_)
      · go_simp
        refine hK _ _ ⟨q1, g0, g1, g2⟩ ?_
        clear hK K'
        refine wpAnyH_one (i := 3) (fuel := 3) rfl (by kernel_rfl) rfl fun K' hK => ?_
        go_simp
        refine (hcall _ (by exact hd2)).mono ?_
        rintro e w5 ⟨rfl, hx5⟩
        have hx5' : Ext W2 w5 := Ext.trans (Ext.drew (Ext.refl W2)) hx5
        refine hK _ _ (hcells _ (grownBy_ext hx5' _)) ?_
        clear hK K'
        refine wpAnyH_one (i := 4) (fuel := 2) rfl (by kernel_rfl) rfl fun K' hK => ?_
        go_simp
        refine hK _ _ (hcells _ (grownBy_ext (hx5'.alloc _) _)) ?_
        clear hK K'
        obtain ⟨v', w7, hrun, hown', hgrow, hnil, hat⟩ := append_cell (w5.alloc (.cells #[.int .i64 (i + 1), .string (cellS p i).2] 91)) (w.heap.size + 5) v (usedL p i).length (flatC (usedL p i)) (ownsRow_ext hown (hx5'.alloc _)) ⟨w5.heap.size, 0, none⟩ (.int .i64 (i + 1)) (.string (cellS p i).2) (two_cells _ _ _ _) rfl rfl (by omega) (by have := hx5'.size; simp [World.size_alloc] at this ⊢; omega)
        refine wpAnyH_one (i := 5) (fuel := 1) rfl (by kernel_rfl) rfl fun K' hK => ?_
        refine wp_append_at (.tmp 13) (.tmp 17) 89 rfl v (.slice (some ⟨w5.heap.size, 0, none⟩) 1 1) rfl rfl hrun ?_
        have hg7 : W2.grownBy w7 v.ownBlock := (grownBy_ext (hx5'.alloc _) _).trans hgrow
        refine hK _ _ (hcells _ hg7) ?_
        clear hK K'
        obtain ⟨g', cap', rfl⟩ := ownsRow_succ hown'
        have k7 : Boxed w7 (w.heap.size + 1) 89 v := (hg7.block _ (block_lt q2) (fun e => (hne _ e.symm).2.2.1 rfl)).trans h2
        have k1 : Boxed w7 w.heap.size 114 _ := (hg7.block _ (block_lt q1) (fun e => (hne _ e.symm).2.1 rfl)).trans h1
        have k3 : Boxed w7 (w.heap.size + 2) 9 _ := (hg7.block _ (by omega) (fun e => (hne _ e.symm).2.2.2.1 rfl)).trans h3
        have q7 := k7.cell
        have f7 := k7.frozen
        refine wpAnyH_one (i := 6) (fuel := 0) rfl (by kernel_rfl) rfl fun K' hK => ?_
        go_simp
        have hkc := hcells _ hg7
        have hu : ∀ u, Upd w7 (w.heap.size + 1) (w7.setCell ⟨w.heap.size + 1, 0, none⟩ u) := fun u => Upd.setCell w7 _ 0 u
        refine hK _ _ ⟨(hu _).cell hkc.1 (by simp), (hu _).cell hkc.2.1 (by simp; omega), (hu _).cell hkc.2.2.1 (by simp; omega), (hu _).cell hkc.2.2.2 (by simp; omega)⟩ ?_
        clear hK K'
        refine wpAnyH_done (by kernel_rfl) ?_ 0
        have hbk : ∀ u k, k ≠ w.heap.size + 1 → k < W2.heap.size → v.ownBlock ≠ some k → (w7.setCell ⟨w.heap.size + 1, 0, none⟩ u).heap[k]? = W2.heap[k]? := fun u k n1 n2 n3 =>
          (Below.heap_setCell _ _ _ k n1).trans (hg7.block k n2 (fun e => n3 e.symm))
        have hxf : ∀ u, Ext w (w7.setCell ⟨w.heap.size + 1, 0, none⟩ u) := fun u =>
          Ext.setCell (Below.grown hx hg7 hx.size (fun k hk => by have := (hown.lt k hk).1; omega)) (Nat.le_succ _) u
        refine ⟨hbk _ _ (by omega) (by omega) (fun e => (hne _ e).2.2.2.2.1 (by omega)), hbk _ _ (by omega) (by omega) (fun e => (hne _ e).2.2.2.2.2 (by omega)), k1.other (by omega) _, k3.other (by omega) _, hxf _, _, k7.set _, ?_⟩
        rw [hE.out]
        have hk := hown'.kept (grownBy_setCell' w7 (w.heap.size + 1) (.slice (some ⟨g', 0, none⟩) ((usedL p i).length + 1) cap')) (.inr (by simp [Value.ownBlock]; have := (hown'.lt g' rfl).1; omega))
        rw [flatC_snoc, List.length_append]
        exact hk
      · go_simp
        refine (hcall _ (by exact hd2)).mono ?_
        rintro e w5 ⟨rfl, hx5⟩
        have hx5' : Ext W2 w5 := Ext.trans (Ext.drew (Ext.refl W2)) hx5
        refine hK _ _ (hcells _ (grownBy_ext hx5' _)) ?_
        clear hK K'
        have q5 := hx5'.cell q2
        refine wpAnyH_two (i := 0) (j := 4) (fuel := 3) rfl rfl (by kernel_rfl) rfl rfl (fun K' hK => ?_) (fun K' hK => ?_)
        · go_simp
          refine hK _ _ (hcells _ (grownBy_ext hx5' _)) ?_
          clear hK K'
          refine wpAnyH_one (i := 4) (fuel := 2) rfl (by kernel_rfl) rfl fun K' hK => ?_
          go_simp
          refine hK _ _ (hcells _ (grownBy_ext (hx5'.alloc _) _)) ?_
          clear hK K'
          obtain ⟨v', w7, hrun, hown', hgrow, hnil, hat⟩ := append_cell (w5.alloc (.cells #[.int .i64 (i + 1), .string (cellS p i).2] 91)) (w.heap.size + 5) v (usedL p i).length (flatC (usedL p i)) (ownsRow_ext hown (hx5'.alloc _)) ⟨w5.heap.size, 0, none⟩ (.int .i64 (i + 1)) (.string (cellS p i).2) (two_cells _ _ _ _) rfl rfl (by omega) (by have := hx5'.size; simp [World.size_alloc] at this ⊢; omega)
          refine wpAnyH_one (i := 5) (fuel := 1) rfl (by kernel_rfl) rfl fun K' hK => ?_
          refine wp_append_at (.tmp 13) (.tmp 17) 89 rfl v (.slice (some ⟨w5.heap.size, 0, none⟩) 1 1) rfl rfl hrun ?_
          have hg7 : W2.grownBy w7 v.ownBlock := (grownBy_ext (hx5'.alloc _) _).trans hgrow
          refine hK _ _ (hcells _ hg7) ?_
          clear hK K'
          obtain ⟨g', cap', rfl⟩ := ownsRow_succ hown'
          have k7 : Boxed w7 (w.heap.size + 1) 89 v := (hg7.block _ (block_lt q2) (fun e => (hne _ e.symm).2.2.1 rfl)).trans h2
          have k1 : Boxed w7 w.heap.size 114 _ := (hg7.block _ (block_lt q1) (fun e => (hne _ e.symm).2.1 rfl)).trans h1
          have k3 : Boxed w7 (w.heap.size + 2) 9 _ := (hg7.block _ (by omega) (fun e => (hne _ e.symm).2.2.2.1 rfl)).trans h3
          have q7 := k7.cell
          have f7 := k7.frozen
          refine wpAnyH_one (i := 6) (fuel := 0) rfl (by kernel_rfl) rfl fun K' hK => ?_
          go_simp
          have hkc := hcells _ hg7
          have hu : ∀ u, Upd w7 (w.heap.size + 1) (w7.setCell ⟨w.heap.size + 1, 0, none⟩ u) := fun u => Upd.setCell w7 _ 0 u
          refine hK _ _ ⟨(hu _).cell hkc.1 (by simp), (hu _).cell hkc.2.1 (by simp; omega), (hu _).cell hkc.2.2.1 (by simp; omega), (hu _).cell hkc.2.2.2 (by simp; omega)⟩ ?_
          clear hK K'
          refine wpAnyH_done (by kernel_rfl) ?_ 0
          have hbk : ∀ u k, k ≠ w.heap.size + 1 → k < W2.heap.size → v.ownBlock ≠ some k → (w7.setCell ⟨w.heap.size + 1, 0, none⟩ u).heap[k]? = W2.heap[k]? := fun u k n1 n2 n3 =>
            (Below.heap_setCell _ _ _ k n1).trans (hg7.block k n2 (fun e => n3 e.symm))
          have hxf : ∀ u, Ext w (w7.setCell ⟨w.heap.size + 1, 0, none⟩ u) := fun u =>
            Ext.setCell (Below.grown hx hg7 hx.size (fun k hk => by have := (hown.lt k hk).1; omega)) (Nat.le_succ _) u
          refine ⟨hbk _ _ (by omega) (by omega) (fun e => (hne _ e).2.2.2.2.1 (by omega)), hbk _ _ (by omega) (by omega) (fun e => (hne _ e).2.2.2.2.2 (by omega)), k1.other (by omega) _, k3.other (by omega) _, hxf _, _, k7.set _, ?_⟩
          rw [hE.out]
          have hk := hown'.kept (grownBy_setCell' w7 (w.heap.size + 1) (.slice (some ⟨g', 0, none⟩) ((usedL p i).length + 1) cap')) (.inr (by simp [Value.ownBlock]; have := (hown'.lt g' rfl).1; omega))
          rw [flatC_snoc, List.length_append]
          exact hk
        · go_simp
          refine hK _ _ (hcells _ (grownBy_ext (hx5'.alloc _) _)) ?_
          clear hK K'
          have q6 := (hx5'.alloc (.cells #[.int .i64 (i + 1), .string (cellS p i).2] 91)).cell q2
          refine wpAnyH_one (i := 0) (fuel := 2) rfl (by kernel_rfl) rfl fun K' hK => ?_
          go_simp
          refine hK _ _ (hcells _ (grownBy_ext (hx5'.alloc _) _)) ?_
          clear hK K'
          obtain ⟨v', w7, hrun, hown', hgrow, hnil, hat⟩ := append_cell (w5.alloc (.cells #[.int .i64 (i + 1), .string (cellS p i).2] 91)) (w.heap.size + 5) v (usedL p i).length (flatC (usedL p i)) (ownsRow_ext hown (hx5'.alloc _)) ⟨w5.heap.size, 0, none⟩ (.int .i64 (i + 1)) (.string (cellS p i).2) (two_cells _ _ _ _) rfl rfl (by omega) (by have := hx5'.size; simp [World.size_alloc] at this ⊢; omega)
          refine wpAnyH_one (i := 5) (fuel := 1) rfl (by kernel_rfl) rfl fun K' hK => ?_
          refine wp_append_at (.tmp 13) (.tmp 17) 89 rfl v (.slice (some ⟨w5.heap.size, 0, none⟩) 1 1) rfl rfl hrun ?_
          have hg7 : W2.grownBy w7 v.ownBlock := (grownBy_ext (hx5'.alloc _) _).trans hgrow
          refine hK _ _ (hcells _ hg7) ?_
          clear hK K'
          obtain ⟨g', cap', rfl⟩ := ownsRow_succ hown'
          have k7 : Boxed w7 (w.heap.size + 1) 89 v := (hg7.block _ (block_lt q2) (fun e => (hne _ e.symm).2.2.1 rfl)).trans h2
          have k1 : Boxed w7 w.heap.size 114 _ := (hg7.block _ (block_lt q1) (fun e => (hne _ e.symm).2.1 rfl)).trans h1
          have k3 : Boxed w7 (w.heap.size + 2) 9 _ := (hg7.block _ (by omega) (fun e => (hne _ e.symm).2.2.2.1 rfl)).trans h3
          have q7 := k7.cell
          have f7 := k7.frozen
          refine wpAnyH_one (i := 6) (fuel := 0) rfl (by kernel_rfl) rfl fun K' hK => ?_
          go_simp
          have hkc := hcells _ hg7
          have hu : ∀ u, Upd w7 (w.heap.size + 1) (w7.setCell ⟨w.heap.size + 1, 0, none⟩ u) := fun u => Upd.setCell w7 _ 0 u
          refine hK _ _ ⟨(hu _).cell hkc.1 (by simp), (hu _).cell hkc.2.1 (by simp; omega), (hu _).cell hkc.2.2.1 (by simp; omega), (hu _).cell hkc.2.2.2 (by simp; omega)⟩ ?_
          clear hK K'
          refine wpAnyH_done (by kernel_rfl) ?_ 0
          have hbk : ∀ u k, k ≠ w.heap.size + 1 → k < W2.heap.size → v.ownBlock ≠ some k → (w7.setCell ⟨w.heap.size + 1, 0, none⟩ u).heap[k]? = W2.heap[k]? := fun u k n1 n2 n3 =>
            (Below.heap_setCell _ _ _ k n1).trans (hg7.block k n2 (fun e => n3 e.symm))
          have hxf : ∀ u, Ext w (w7.setCell ⟨w.heap.size + 1, 0, none⟩ u) := fun u =>
            Ext.setCell (Below.grown hx hg7 hx.size (fun k hk => by have := (hown.lt k hk).1; omega)) (Nat.le_succ _) u
          refine ⟨hbk _ _ (by omega) (by omega) (fun e => (hne _ e).2.2.2.2.1 (by omega)), hbk _ _ (by omega) (by omega) (fun e => (hne _ e).2.2.2.2.2 (by omega)), k1.other (by omega) _, k3.other (by omega) _, hxf _, _, k7.set _, ?_⟩
          rw [hE.out]
          have hk := hown'.kept (grownBy_setCell' w7 (w.heap.size + 1) (.slice (some ⟨g', 0, none⟩) ((usedL p i).length + 1) cap')) (.inr (by simp [Value.ownBlock]; have := (hown'.lt g' rfl).1; omega))
          rw [flatC_snoc, List.length_append]
          exact hk
  case done =>
    rintro W ⟨h1, h3, hx, v, h2, hown⟩ hD
    have q2 := h2.cell
    refine wpAt_of_wp ?_
    go_wp2
    refine ⟨by simp, .inl ⟨_, _, rfl, run_takeDeferred (by rw [← hsz]; exact hD), ?_⟩⟩
    rw [← hsz]
    refine ⟨_, results_tmp rfl _ _ _, v, rfl, ?_, Upd.ext hx (grownBy_putObj' _ _ _) (by omega)⟩
    exact ownsRow_base (ownsRow_upd hown (grownBy_putObj' _ _ _) (by omega)) (by omega)
end
section
open Go.RowKit
set_option linter.unusedVariables false
set_option maxRecDepth 20000

theorem two_inj {a b c d : Nat} (hb : b < 256) (hd : d < 256) (h : 256 * a + b = 256 * c + d) : a = c ∧ b = d := by omega
theorem twoF_inj {p q : ByteArray} {i : Nat} (h : twoF p i = twoF q i) : bt p i = bt q i ∧ bt p (i + 1) = bt q (i + 1) :=
  two_inj (bt_lt p (i + 1)) (bt_lt q (i + 1)) h
theorem bt_beyond (p : ByteArray) (i : Nat) (h : p.size ≤ i) : bt p i = 0 := by
  unfold bt
  rw [List.getD_eq_getElem?_getD, List.getElem?_eq_none (by simpa using h)]
  rfl
theorem page_ext {p q : ByteArray} (hs : p.size = q.size) (h : ∀ j, j < p.size → bt p j = bt q j) : p = q := by
  apply ByteArray.ext
  apply Array.ext
  · exact hs
  · intro i h1 h2
    have := h i h1
    rw [← get_bt p i h1, ← get_bt q i h2] at this
    exact UInt8.toNat_inj.1 this
theorem bt_extract (p : ByteArray) (a b j : Nat) (h : b ≤ p.size) (hj : a + j < b) : bt (p.extract a b) j = bt p (a + j) := by
  have h1 : j < (p.extract a b).size := by rw [ByteArray.size_extract]; omega
  rw [← get_bt _ j h1, ← get_bt p (a + j) (by omega)]
  congr 1
  exact ByteArray.getElem_extract ..

theorem used_line (p : ByteArray) (k : Nat) : ∀ c ∈ usedL p k, c.1 ≤ k := by
  induction k with
  | zero => intro c hc; simp [usedL] at hc
  | succ k ih =>
    intro c hc
    unfold usedL at hc
    split at hc
    · have := ih c hc; omega
    · rcases List.mem_append.1 hc with h | h
      · have := ih c h; omega
      · rw [List.mem_singleton.1 h]; simp [cellS]
theorem slot_in {p : ByteArray} (hN : 2 + 4 * twoF p 0 ≤ p.size) (hg : goodS p (twoF p 0)) (k : Nat) (hk : k < twoF p 0) :
    (twoF p (4 + 4 * k) = 0 ∧ twoF p (2 + 4 * k) = 0) ∨ (twoF p (4 + 4 * k) ≠ 0 ∧ twoF p (2 + 4 * k) + twoF p (4 + 4 * k) = topF p k ∧ topF p k ≤ p.size ∧ ¬ freeS p k) := by
  have hb := hg k hk
  have ht := topF_in p hN k (fun i hi => hg i (by omega))
  by_cases hf : freeS p k
  · exact .inl ⟨hf.2, hf.1⟩
  · right
    unfold badS at hb
    have hb' : ¬ (twoF p (4 + 4 * k) = 0 ∨ twoF p (2 + 4 * k) + twoF p (4 + 4 * k) ≠ topF p k ∨ twoF p (2 + 4 * k) < 2 + 4 * twoF p 0) := fun h => hb ⟨hf, h⟩
    exact ⟨fun h => hb' (.inl h), Classical.byContradiction fun h => hb' (.inr (.inl h)), ht.2, hf⟩
theorem slot_le {p : ByteArray} (hv : ValidR p) (k : Nat) (hk : k < twoF p 0) : twoF p (2 + 4 * k) + twoF p (4 + 4 * k) ≤ p.size := by
  obtain ⟨⟨_, _, hN⟩, hg, _⟩ := hv
  rcases slot_in hN hg k hk with ⟨h1, h2⟩ | ⟨_, h1, h2, _⟩ <;> omega
theorem topF_succ {p : ByteArray} (hN : 2 + 4 * twoF p 0 ≤ p.size) (hg : goodS p (twoF p 0)) (k : Nat) (hk : k < twoF p 0) : topF p (k + 1) + twoF p (4 + 4 * k) = topF p k := by
  rcases slot_in hN hg k hk with ⟨h1, h2⟩ | ⟨_, h1, h2, hf⟩
  · have : freeS p k := ⟨h2, h1⟩
    simp [topF, this, h1]
  · simp [topF, hf, h1]
theorem used_last {p : ByteArray} (hv : ValidR p) (m : Nat) (hm : twoF p 0 = m + 1) : twoF p (4 + 4 * m) ≠ 0 := by
  obtain ⟨⟨_, _, hN⟩, hg, hl, _⟩ := hv
  rcases slot_in hN hg m (by omega) with ⟨h1, h2⟩ | ⟨h1, _⟩
  · exfalso
    rw [hm] at hl
    have hf : freeS p m := ⟨h2, h1⟩
    simp [lastS, hf] at hl
    have := lastS_le p m
    omega
  · exact h1
theorem count_same {p q : ByteArray} (hp : ValidR p) (hq : ValidR q) (hu : usedL p (twoF p 0) = usedL q (twoF q 0)) : twoF p 0 = twoF q 0 := by
  cases hm : twoF p 0 with
  | zero =>
    cases hn : twoF q 0 with
    | zero => rfl
    | succ n =>
      have h1 := used_last hq n hn
      rw [hm, hn] at hu
      simp [usedL, h1] at hu
  | succ m =>
    have h1 := used_last hp m hm
    cases hn : twoF q 0 with
    | zero =>
      rw [hm, hn] at hu
      simp [usedL, h1] at hu
    | succ n =>
      have h2 := used_last hq n hn
      rw [hm, hn] at hu
      simp only [usedL, h1, h2, if_false] at hu
      have := (List.append_inj' hu rfl).2
      simp [cellS] at this
      omega
theorem used_same {p q : ByteArray} {n : Nat} (hu : usedL p n = usedL q n) : ∀ d k, k + d = n → usedL p k = usedL q k := by
  intro d
  induction d with
  | zero => intro k hk; have e : k = n := by omega
            rw [e]; exact hu
  | succ d ih =>
    intro k hk
    have h := ih (k + 1) (by omega)
    unfold usedL at h
    split at h <;> split at h
    · exact h
    · exfalso
      have hm : cellS q k ∈ usedL p k := by rw [h]; simp
      have := used_line p k _ hm
      simp [cellS] at this
      omega
    · exfalso
      have hm : cellS p k ∈ usedL q k := by rw [← h]; simp
      have := used_line q k _ hm
      simp [cellS] at this
      omega
    · exact (List.append_inj' h rfl).1
theorem slot_same {p q : ByteArray} {n : Nat} (hu : usedL p n = usedL q n) (k : Nat) (hk : k < n) : (twoF p (4 + 4 * k) = 0 ↔ twoF q (4 + 4 * k) = 0) ∧ (twoF p (4 + 4 * k) ≠ 0 → cellS p k = cellS q k) := by
  have h0 := used_same hu (n - k) k (by omega)
  have h := used_same hu (n - (k + 1)) (k + 1) (by omega)
  unfold usedL at h
  split at h <;> split at h
  · rename_i h1 h2; exact ⟨⟨fun _ => h2, fun _ => h1⟩, fun h3 => absurd h1 h3⟩
  · rw [h0] at h; have := congrArg List.length h; simp at this
  · rw [h0] at h; have := congrArg List.length h; simp at this
  · rename_i h1 h2
    exact ⟨⟨fun h3 => absurd h3 h1, fun h3 => absurd h3 h2⟩, fun _ => by simpa using (List.append_inj' h rfl).2⟩
theorem cellS_len {p : ByteArray} (hv : ValidR p) (k : Nat) (hk : k < twoF p 0) : (cellS p k).2.size = twoF p (4 + 4 * k) := by
  have := slot_le hv k hk
  simp [cellS, ByteArray.size_extract]
  omega
theorem in_data {p : ByteArray} (hv : ValidR p) : ∀ k, k ≤ twoF p 0 → ∀ j, topF p k ≤ j → j < p.size → ∃ i, i < k ∧ twoF p (4 + 4 * i) ≠ 0 ∧ twoF p (2 + 4 * i) ≤ j ∧ j < twoF p (2 + 4 * i) + twoF p (4 + 4 * i) := by
  obtain ⟨⟨_, _, hN⟩, hg, _⟩ := hv
  intro k
  induction k with
  | zero => intro _ j h1 h2; simp [topF] at h1; omega
  | succ k ih =>
    intro hk j h1 h2
    rcases slot_in hN hg k (by omega) with ⟨g1, g2⟩ | ⟨g1, g2, _, hf⟩
    · have hfr : freeS p k := ⟨g2, g1⟩
      simp [topF, hfr] at h1
      obtain ⟨i, h3, h4⟩ := ih (by omega) j h1 h2
      exact ⟨i, by omega, h4⟩
    · simp [topF, hf] at h1
      by_cases hj : topF p k ≤ j
      · obtain ⟨i, h3, h4⟩ := ih (by omega) j hj h2
        exact ⟨i, by omega, h4⟩
      · exact ⟨k, by omega, g1, h1, by omega⟩

/-- Two valid pages of one size with the same cells are one. -/
theorem page_unique {p q : ByteArray} (hp : ValidR p) (hq : ValidR q) (hs : p.size = q.size) (hu : usedL p (twoF p 0) = usedL q (twoF q 0)) : p = q := by
  have hn := count_same hp hq hu
  obtain ⟨hp1, hpg, hpl, hpz⟩ := id hp
  obtain ⟨hq1, hqg, hql, hqz⟩ := id hq
  have hNp := hp1.2.2
  have hNq := hq1.2.2
  rw [← hn] at hu
  have hslot := slot_same hu
  have htop : ∀ k, k ≤ twoF p 0 → topF p k = topF q k := by
    intro k
    induction k with
    | zero => intro _; exact hs
    | succ k ih =>
      intro hk
      have t1 := topF_succ hNp hpg k (by omega)
      have t2 := topF_succ hNq hqg k (by omega)
      have t3 := ih (by omega)
      have hl : twoF p (4 + 4 * k) = twoF q (4 + 4 * k) := by
        by_cases h0 : twoF p (4 + 4 * k) = 0
        · rw [h0, (hslot k (by omega)).1.1 h0]
        · rw [← cellS_len hp k (by omega), ← cellS_len hq k (by omega), (hslot k (by omega)).2 h0]
      omega
  have hlen : ∀ k, k < twoF p 0 → twoF p (4 + 4 * k) = twoF q (4 + 4 * k) := fun k hk => by
    have t1 := topF_succ hNp hpg k (by omega)
    have t2 := topF_succ hNq hqg k (by omega)
    have t3 := htop k (by omega)
    have t4 := htop (k + 1) (by omega)
    omega
  have hoff : ∀ k, k < twoF p 0 → twoF p (2 + 4 * k) = twoF q (2 + 4 * k) := fun k hk => by
    have h0 := hlen k hk
    have t3 := htop k (by omega)
    rcases slot_in hNp hpg k hk with ⟨g1, g2⟩ | ⟨g1, g2, _⟩ <;> rcases slot_in hNq hqg k (by omega) with ⟨r1, r2⟩ | ⟨r1, r2, _⟩ <;> omega
  refine page_ext hs fun j hj => ?_
  by_cases h1 : j < 2
  · obtain ⟨a, b⟩ := twoF_inj (i := 0) hn
    rcases (by omega : j = 0 ∨ j = 1) with rfl | rfl
    · exact a
    · exact b
  · by_cases h2 : j < 2 + 4 * twoF p 0
    · obtain ⟨k, r, hk, hr⟩ : ∃ k r, j = 2 + 4 * k + r ∧ r < 4 := ⟨(j - 2) / 4, (j - 2) % 4, by omega, by omega⟩
      obtain ⟨a, b⟩ := twoF_inj (hoff k (by omega))
      obtain ⟨c, d⟩ := twoF_inj (hlen k (by omega))
      rcases (by omega : r = 0 ∨ r = 1 ∨ r = 2 ∨ r = 3) with rfl | rfl | rfl | rfl
      · rw [hk]; exact a
      · rw [hk]; exact b
      · rw [show j = 4 + 4 * k by omega]; exact c
      · rw [show j = 4 + 4 * k + 1 by omega]; exact d
    · by_cases h3 : j < topF p (twoF p 0)
      · rw [hpz j h3 (by omega), hqz j (by rw [← hn, ← htop _ (Nat.le_refl _)]; exact h3) (by omega)]
      · obtain ⟨i, g1, g2, g3, g4⟩ := in_data hp (twoF p 0) (Nat.le_refl _) j (by omega) hj
        have hc := congrArg Prod.snd ((hslot i g1).2 g2)
        simp only [cellS] at hc
        have e1 := bt_extract p (twoF p (2 + 4 * i)) (twoF p (2 + 4 * i) + twoF p (4 + 4 * i)) (j - twoF p (2 + 4 * i)) (slot_le hp i g1) (by omega)
        have e2 := bt_extract q (twoF q (2 + 4 * i)) (twoF q (2 + 4 * i) + twoF q (4 + 4 * i)) (j - twoF q (2 + 4 * i)) (slot_le hq i (by omega)) (by rw [← hoff i g1, ← hlen i g1]; omega)
        rw [hc, ← hoff i g1] at e1
        rw [← hoff i g1] at e2
        rw [show twoF p (2 + 4 * i) + (j - twoF p (2 + 4 * i)) = j by omega] at e1 e2
        rw [← e1, ← e2]
end
end Go.Proofs.Ytcbainmpikcfjaa
