/- page.cells, page.Cells: the cells of a page. -/
import Derived.Test.YtnileonlabpbpaaWrong
import Derived.Maps.AppendAt
namespace Go.Proofs.Ytnileonlabpbpaa
open Go.RowKit
set_option linter.unusedVariables false
set_option maxRecDepth 20000
attribute [local go_sem] Oper.semAt_some

instance (p : ByteArray) (k : Nat) : Decidable (goodS p k) := by unfold goodS; exact inferInstance
/-- a page, by the bytes -/
def ValidR (p : ByteArray) : Prop := headR p ∧ goodS p (twoF p 0) ∧ lastS p (twoF p 0) = twoF p 0 ∧ ∀ j, j < topF p (twoF p 0) → 2 + 4 * twoF p 0 ≤ j → bt p j = 0
instance (p : ByteArray) : Decidable (ValidR p) := by unfold ValidR headR; exact inferInstance

theorem WrongR.ok {p : ByteArray} {a e : Nat} (h : WrongR p a e) : e = 0 ↔ ValidR p := by
  unfold ValidR
  rcases h with ⟨h, _, he⟩ | ⟨_, h, _, he⟩ | ⟨_, ⟨k, hk, hg, hb, _⟩, he⟩ | ⟨_, _, h, _, he⟩ | ⟨_, _, _, ⟨i, h1, h2, _, h3, _⟩, he⟩ | ⟨h1, h2, h3, h4, _, he⟩
  · exact ⟨fun h0 => by omega, fun h0 => by have := h0.1.1; rw [h] at this; cases this⟩
  · exact ⟨fun h0 => by omega, fun h0 => absurd h0.1.2 h⟩
  · exact ⟨fun h0 => by omega, fun h0 => absurd hb (h0.2.1 k hk)⟩
  · exact ⟨fun h0 => by omega, fun h0 => by have := h0.2.2.1; omega⟩
  · exact ⟨fun h0 => by omega, fun h0 => absurd (h0.2.2.2 i h2 h1) h3⟩
  · exact ⟨fun _ => ⟨h1, h2, h3, fun j g1 g2 => h4 j g2 g1⟩, fun _ => he⟩

theorem valid_any (p : ByteArray) (w : World) (hp : p.size ≤ 140737488355328) :
    Calls Try.prog 44 #[.string p] w fun e w' => e = .returned (.bool (decide (ValidR p))) ∧ Ext w w' := by
  obtain ⟨a, e, hw, hc⟩ := wrong_any p w hp
  have hok := hw.ok
  go_enter Try.func44, Try.ntmps44
  go_wp2_with (go_at_call 16; refine hc.mono ?_; rintro e w1 ⟨rfl, hx⟩)
  go_ret
  refine ⟨ret_bool ?_, hx⟩
  by_cases hv : ValidR p
  · have := hok.2 hv
    subst this
    simp [hv]
  · have : ¬ e = 0 := fun h => hv (hok.1 h)
    simp [hv]
    omega

/-- slot k as a cell -/
def cellS (p : ByteArray) (k : Nat) : Cel := ((k : Int) + 1, p.extract (twoF p (2 + 4 * k)) (twoF p (2 + 4 * k) + twoF p (4 + 4 * k)))
def celV (c : Cel) : Value := .agg #[.int .i64 c.1, .string c.2]

theorem cell_any (p : ByteArray) (k c : Nat) (w : World) (hp : p.size ≤ 4096) (hc : w.cell? ⟨c, 0, none⟩ = some (.string p)) (hk : k < 65536) (hs : twoF p (2 + 4 * k) + twoF p (4 + 4 * k) ≤ p.size) :
    Calls Try.prog 60 #[slotV p k, .pointer (some ⟨c, 0, none⟩)] w fun e w' => e = .returned (celV (cellS p k)) ∧ Ext w w' := by
  unfold slotV cellS celV
  have c1 : twoF p (2 + 4 * k) < 65536 := by have := bt_lt p (2 + 4 * k); have := bt_lt p (2 + 4 * k + 1); unfold twoF; omega
  generalize twoF p (2 + 4 * k) = off at *
  generalize twoF p (4 + 4 * k) = len at *
  have h1 : (0 : Int) ≤ off := by omega
  have h2 : (off : Int) ≤ off + len := by omega
  have h3 : (off : Int) + len ≤ p.size := by omega
  have hlt := block_lt hc
  have hws : IntKind.i64.wrap ((off : Int) + len) = off + len := IntWalk.i64_in _ ⟨by omega, by omega⟩
  have ht1 : ((off : Int) + len).toNat = off + len := by omega
  go_enter Try.func60, Try.ntmps60
  go_wp2
  have hn1 : ((w.alloc (.cells #[.int .i64 (k + 1), .int .i64 (off), .int .i64 (len)] 90)).alloc (.cells #[.int .i64 0, .string ⟨#[]⟩] 85)).heap[w.heap.size]? = some (.cells #[.int .i64 (k + 1), .int .i64 (off), .int .i64 (len)] 90 (0, 0)) :=
    (Below.heap_alloc _ _ _ (by simp)).trans (World.alloc_heap_new w _)
  have hn2 : ((w.alloc (.cells #[.int .i64 (k + 1), .int .i64 (off), .int .i64 (len)] 90)).alloc (.cells #[.int .i64 0, .string ⟨#[]⟩] 85)).heap[w.heap.size + 1]? = some (.cells #[.int .i64 0, .string ⟨#[]⟩] 85 (0, 0)) := by
    have := World.alloc_heap_new (w.alloc (.cells #[.int .i64 (k + 1), .int .i64 (off), .int .i64 (len)] 90)) (.cells #[.int .i64 0, .string ⟨#[]⟩] 85)
    rwa [World.size_alloc] at this
  have hx : Ext w ((w.alloc (.cells #[.int .i64 (k + 1), .int .i64 (off), .int .i64 (len)] 90)).alloc (.cells #[.int .i64 0, .string ⟨#[]⟩] 85)) := ((Ext.refl w).alloc _).alloc _
  have hc' := hx.cell hc
  generalize (w.alloc (.cells #[.int .i64 (k + 1), .int .i64 (off), .int .i64 (len)] 90)).alloc (.cells #[.int .i64 0, .string ⟨#[]⟩] 85) = w1 at *
  have g0 : w1.cell? ⟨w.heap.size, 0, none⟩ = some (.int .i64 (k + 1)) := by simp [World.cell?, hn1]
  have g1 : w1.cell? ⟨w.heap.size, 1, none⟩ = some (.int .i64 (off)) := by simp [World.cell?, hn1]
  have g2 : w1.cell? ⟨w.heap.size, 2, none⟩ = some (.int .i64 (len)) := by simp [World.cell?, hn1]
  have g3 : w1.cell? ⟨w.heap.size + 1, 0, none⟩ = some (.int .i64 0) := by simp [World.cell?, hn2]
  have g4 : w1.cell? ⟨w.heap.size + 1, 1, none⟩ = some (.string ⟨#[]⟩) := by simp [World.cell?, hn2]
  have f3 : w1.frozen? ⟨w.heap.size + 1, 0, none⟩ = false := by simp [World.frozen?, hn2]
  have f4 : w1.frozen? ⟨w.heap.size + 1, 1, none⟩ = false := by simp [World.frozen?, hn2]
  have hd : w.heap.size ≤ w.heap.size + 1 := by omega
  have hd' : ((k : Int) + 1).toNat = k + 1 := by omega
  clear hn1 hn2 hc
  have hE : ∀ u v, Ext w (((w1.setCell ⟨w.heap.size + 1, 0, none⟩ u).setCell ⟨w.heap.size + 1, 1, none⟩ v).drew) := fun u v => ((hx.setCell hd _).setCell hd _).drew
  generalize w.heap.size = d at *
  have n1 : ¬ c = d + 1 := by omega
  have n2 : ¬ d + 1 = c := by omega
  go_region_held3 (fun w' => w'.cell? ⟨d, 0, none⟩ = some (.int .i64 (k + 1)) ∧ w'.cell? ⟨d, 1, none⟩ = some (.int .i64 off) ∧ w'.cell? ⟨d, 2, none⟩ = some (.int .i64 len) ∧ w'.cell? ⟨c, 0, none⟩ = some (.string p)) (go_keep) (fail)
  all_goals go_wp2
  all_goals exact bodyPost_ret (v := .agg #[.int .i64 (k + 1), .string (p.extract off (off + len))]) (by simp [results, Try.results60, go_sem, g3, g4]) rfl ⟨rfl, hE _ _⟩

/-- the used slots among the first k, as cells -/
def usedL (p : ByteArray) : Nat → List Cel
  | 0 => []
  | k + 1 => if twoF p (4 + 4 * k) = 0 then usedL p k else usedL p k ++ [cellS p k]
def flatC (l : List Cel) : List Value := l.flatMap fun c => [.int .i64 c.1, .string c.2]
theorem flatC_length (l : List Cel) : (flatC l).length = l.length * 2 := by
  induction l with
  | nil => rfl
  | cons c l ih => simp [flatC] at ih ⊢; omega
theorem flatC_snoc (l : List Cel) (c : Cel) : flatC (l ++ [c]) = flatC l ++ [.int .i64 c.1, .string c.2] := by simp [flatC]
theorem usedL_length (p : ByteArray) (k : Nat) : (usedL p k).length ≤ k := by
  induction k with
  | zero => simp [usedL]
  | succ k ih =>
    unfold usedL
    split
    · omega
    · simp; omega
theorem Try.infoC : (Try.prog.info? 85).map (fun i => (i.zero, i.size, i.bytes)) = some (some (.agg #[.int .i64 0, .string ⟨#[]⟩]), 2, 24) := by kernel_rfl

theorem ownsRow_ext {A B : World} {base : Nat} {e : TypeId} {size : Nat} {v : Value} {n : Nat} {xs : List Value} (h : A.ownsRow base e size v n xs) (hx : Ext A B) : B.ownsRow base e size v n xs := by
  refine ⟨h.1, ?_⟩
  rcases h.2 with h0 | ⟨g, cap, cur, hv, hb, hg, rest⟩
  · exact .inl h0
  · exact .inr ⟨g, cap, cur, hv, hb, hx.heap hg, rest⟩
theorem ownsRow_upd {A B : World} {base : Nat} {e : TypeId} {size : Nat} {v : Value} {n : Nat} {xs : List Value} {k : Nat} (h : A.ownsRow base e size v n xs) (hx : Upd A k B) (hk : k < base) : B.ownsRow base e size v n xs := by
  refine ⟨h.1, ?_⟩
  rcases h.2 with h0 | ⟨g, cap, cur, hv, hb, hg, rest⟩
  · exact .inl h0
  · exact .inr ⟨g, cap, cur, hv, hb, hx.heap hg (by omega), rest⟩
theorem ownsRow_base {A : World} {base base' : Nat} {e : TypeId} {size : Nat} {v : Value} {n : Nat} {xs : List Value} (h : A.ownsRow base e size v n xs) (hb' : base' ≤ base) : A.ownsRow base' e size v n xs := by
  refine ⟨h.1, ?_⟩
  rcases h.2 with h0 | ⟨g, cap, cur, hv, hb, rest⟩
  · exact .inl h0
  · exact .inr ⟨g, cap, cur, hv, by omega, rest⟩

theorem two_cells (w : World) (x y : Value) (t : TypeId) : ∀ j u, [x, y][j]? = some u → (w.alloc (.cells #[x, y] t)).cell? ((⟨w.heap.size, 0, none⟩ : Addr).add j) = some u := by
  intro j u hj
  match j, hj with
  | 0, hj =>
    simp at hj
    subst hj
    simp [Addr.add]
  | 1, hj =>
    simp at hj
    subst hj
    simp [Addr.add]
theorem append_cell (w : World) (base : Nat) (v : Value) (n : Nat) (xs : List Value) (hown : w.ownsRow base 85 2 v n xs) (a : Addr) (x y : Value) (hnews : ∀ j u, [x, y][j]? = some u → w.cell? (a.add j) = some u)
    (h1 : x.oneCell' = true) (h2 : y.oneCell' = true) (hn : n ≤ 1024) (hbase : base ≤ w.heap.size) :
    ∃ v' w', (Builtin.append_ #[81, 81] 81 #[v, .slice (some a) 1 1]).run Try.prog w = .ok v' w' ∧ w'.ownsRow base 85 2 v' (n + 1) (xs ++ [x, y]) ∧ w.grownBy w' v.ownBlock ∧
      (v' = .slice none 0 0 ↔ v = .slice none 0 0 ∧ 1 = 0) ∧ (v'.ownBlock = v.ownBlock ∨ v'.ownBlock = some w.heap.size) := by
  obtain ⟨i0, hi, hz0, hz1, hz2⟩ := info_parts Try.infoC
  exact run_append_own_at (P := Try.prog) w base 81 81 85 i0 _ 2 24 Try.underlying81 hi hz0 hz1 hz2 rfl (by decide) v n xs hown a 1 1 [x, y] rfl hnews (by simp [h1, h2]) (by simp only [maxLen]; omega) (by omega) hbase

set_option maxRecDepth 20000 in
set_option maxHeartbeats 2000000 in
theorem gather_any (p : ByteArray) (d : Nat) (w : World) (h32 : 32 ≤ p.size) (hp : p.size ≤ 4096) (hN : 2 + 4 * twoF p 0 ≤ p.size) (hd : w.cell? ⟨d, 0, none⟩ = some (.string p))
    (hs : ∀ k, k < twoF p 0 → twoF p (2 + 4 * k) + twoF p (4 + 4 * k) ≤ p.size) :
    Calls Try.prog 59 #[.string p, .func (.func 60) #[] #[.pointer (some ⟨d, 0, none⟩)]] w fun e w' => ∃ v, e = .returned v ∧ w'.ownsRow w.heap.size 85 2 v (usedL p (twoF p 0)).length (flatC (usedL p (twoF p 0))) ∧ Ext w w' := by
  have hdl := block_lt hd
  refine calls_of_wpAt Try.func59 rfl ?_
  simp only [Try.ntmps59, List.size_toArray, List.length_cons, List.length_nil, Nat.reduceAdd, Nat.reduceSub, Array.replicate_succ, Array.replicate_zero, List.push_toArray, List.append_toArray, List.nil_append, List.cons_append]
  refine wpAt_seq_k (fun K hK => ?_)
  go_wp2
  refine wpAt_seq_k (fun K hK => ?_)
  go_wp2
  refine wpAt_seq ?_
  refine wpAt_seq_k (fun K hK => ?_)
  go_wp2_with (go_at_call 53; refine (slots_any p _).mono ?_; rintro e w1 ⟨rfl, rfl⟩)
  obtain ⟨W1, hW1⟩ : ∃ W1, (((w.alloc (.cells #[.func (.func 60) #[] #[.pointer (some ⟨d, 0, none⟩)]] 97)).alloc (.cells #[.slice none 0 0] 81)).alloc (.cells #[.string p] 9)) = W1 := ⟨_, rfl⟩
  have hb1 : Boxed W1 w.heap.size 97 (.func (.func 60) #[] #[.pointer (some ⟨d, 0, none⟩)]) := by
    rw [← hW1]; exact ((Boxed.new _ _ _).alloc _).alloc _
  have hb2 : Boxed W1 (w.heap.size + 1) 81 (.slice none 0 0) := by
    rw [← hW1]
    have := Boxed.new (w.alloc (.cells #[.func (.func 60) #[] #[.pointer (some ⟨d, 0, none⟩)]] 97)) 81 (.slice none 0 0)
    rw [World.size_alloc] at this
    exact this.alloc _
  have hb3 : Boxed W1 (w.heap.size + 2) 9 (.string p) := by
    rw [← hW1]
    have := Boxed.new ((w.alloc (.cells #[.func (.func 60) #[] #[.pointer (some ⟨d, 0, none⟩)]] 97)).alloc (.cells #[.slice none 0 0] 81)) 9 (.string p)
    rw [World.size_alloc, World.size_alloc] at this
    exact this
  have hsz : W1.heap.size = w.heap.size + 3 := by rw [← hW1]; simp [World.size_alloc]
  have hx0 : Ext w W1 := by rw [← hW1]; exact (((Ext.refl w).alloc _).alloc _).alloc _
  rw [hW1]
  clear hW1
  refine wpAt_block ?_
  refine wpAt_rangeFunc (hf := Try.func59) (gf := 65) (lb := #[.pointer (some ⟨w.heap.size + 2, 0, none⟩)]) rfl (enters_of Try.func65 (by kernel_rfl) rfl)
    (slots_seq p _ (by omega) (by omega) hN) (fun _ => rfl)
    (fun i W => Boxed W w.heap.size 97 (.func (.func 60) #[] #[.pointer (some ⟨d, 0, none⟩)]) ∧ Boxed W (w.heap.size + 2) 9 (.string p) ∧ Ext w W ∧
      ∃ v, Boxed W (w.heap.size + 1) 81 v ∧ W.ownsRow (w.heap.size + 5) 85 2 v (usedL p i).length (flatC (usedL p i)))
    (fun _ _ _ => False)
    (fun _ _ _ => False)
    (fun i A B ⟨h1, h3, h4, v, h5, h6⟩ hx => ⟨hx.heap h1, hx.heap h3, h4.trans hx, v, hx.heap h5, ownsRow_ext h6 hx⟩)
    (fun _ _ _ _ h _ => h)
    (fun i A B ⟨h1, h3, h4, v, h5, h6⟩ hx => ⟨hx.heap h1 (by omega), hx.heap h3 (by omega), Upd.ext h4 hx (by omega), v, hx.heap h5 (by omega), ownsRow_upd h6 hx (by omega)⟩)
    (fun _ _ _ _ h _ => h)
    (fun i A h => h.2.1.cell)
    ⟨hb1, hb3, hx0, _, hb2, World.ownsRow_nil _ _ _ _⟩ ?round ?done (fun _ _ _ _ h _ => h.elim) (fun _ _ _ _ h _ => h.elim)
  case round =>
    rintro i W ⟨h1, h3, hx, v, h2, hown⟩ hW hi
    have hsi := hs i hi
    have hul := usedL_length p i
    have hlen : (slotV p i) = .agg #[.int .i64 (i + 1), .int .i64 (twoF p (2 + 4 * i)), .int .i64 (twoF p (4 + 4 * i))] := rfl
    have c2 : twoF p (4 + 4 * i) < 65536 := by have := bt_lt p (4 + 4 * i); have := bt_lt p (4 + 4 * i + 1); unfold twoF; omega
    have eu : usedL p (i + 1) = if twoF p (4 + 4 * i) = 0 then usedL p i else usedL p i ++ [cellS p i] := rfl
    have hcall : ∀ W, W.cell? ⟨d, 0, none⟩ = some (.string p) → Calls Try.prog 60 #[.agg #[.int .i64 (i + 1), .int .i64 (twoF p (2 + 4 * i)), .int .i64 (twoF p (4 + 4 * i))], .pointer (some ⟨d, 0, none⟩)] W fun e w' => e = .returned (.agg #[.int .i64 (i + 1), .string (cellS p i).2]) ∧ Ext W w' :=
      fun W hW => cell_any p i d W hp hW (by omega) hsi
    simp only [slotV]
    gi_wp2
    have hxa : Ext W (W.alloc (.cells #[.int .i64 (i + 1), .int .i64 (twoF p (2 + 4 * i)), .int .i64 (twoF p (4 + 4 * i))] 90)) := (Ext.refl W).alloc _
    have hn5 : (W.alloc (.cells #[.int .i64 (i + 1), .int .i64 (twoF p (2 + 4 * i)), .int .i64 (twoF p (4 + 4 * i))] 90)).heap[W.heap.size]? = some (.cells #[.int .i64 (i + 1), .int .i64 (twoF p (2 + 4 * i)), .int .i64 (twoF p (4 + 4 * i))] 90 (0, 0)) := World.alloc_heap_new _ _
    refine ⟨hxa.block (by omega), hxa.block (by omega), ?_⟩
    intro W2 hu2 hs2
    replace hn5 := hu2.heap hn5 (by omega)
    replace h1 : Boxed W2 _ _ _ := hu2.heap (hxa.heap h1) (by omega)
    replace h2 : Boxed W2 _ _ _ := hu2.heap (hxa.heap h2) (by omega)
    replace h3 : Boxed W2 _ _ _ := hu2.heap (hxa.heap h3) (by omega)
    replace hown := ownsRow_upd (ownsRow_ext hown hxa) hu2 (by omega)
    replace hx := Upd.ext (hx.trans hxa) hu2 (by omega)
    have hd2 := hx.cell hd
    have hsz2 : w.heap.size + 5 ≤ W2.heap.size := by have := hu2.size; have := hxa.size; omega
    have g0 : W2.cell? ⟨W.heap.size, 0, none⟩ = some (.int .i64 (i + 1)) := by simp [World.cell?, hn5]
    have g1 : W2.cell? ⟨W.heap.size, 1, none⟩ = some (.int .i64 (twoF p (2 + 4 * i))) := by simp [World.cell?, hn5]
    have g2 : W2.cell? ⟨W.heap.size, 2, none⟩ = some (.int .i64 (twoF p (4 + 4 * i))) := by simp [World.cell?, hn5]
    have q1 := h1.cell
    have q2 := h2.cell
    clear hu2 hs2 hxa
    generalize W.heap.size = c5 at *
    by_cases hl0 : twoF p (4 + 4 * i) = 0
    · rw [if_pos hl0] at eu
      rw [hl0] at g2
      gi_wp2
      exact ⟨rfl, rfl, h1, h3, hx, v, h2, by rw [eu]; exact hown⟩
    · rw [if_neg hl0] at eu
      have hl1 : (0 : Int) < twoF p (4 + 4 * i) := by omega
      have hE := Lib.hid eu
      clear eu
      generalize twoF p (4 + 4 * i) = len at *
      generalize twoF p (2 + 4 * i) = off at *
      gi_wp2
      have hne : ∀ g, v.ownBlock = some g → g ≠ c5 ∧ g ≠ w.heap.size ∧ g ≠ w.heap.size + 1 ∧ g ≠ w.heap.size + 2 ∧ g ≠ w.heap.size + 3 ∧ g ≠ w.heap.size + 4 := by
        intro g hg
        have hge := (hown.lt g hg).1
        refine ⟨?_, by omega, by omega, by omega, by omega, by omega⟩
        rcases hown.2 with ⟨hv, _⟩ | ⟨g', cap, cur, hv, _, hgh, _⟩
        · rw [hv] at hg; simp [Value.ownBlock] at hg
        · rw [hv] at hg
          simp [Value.ownBlock] at hg
          subst hg
          intro e
          subst e
          rw [hgh] at hn5
          simp at hn5
      have hc5l : c5 < W2.heap.size := block_lt g0
      have hcells : ∀ W, W2.grownBy W v.ownBlock → W.cell? ⟨w.heap.size, 0, none⟩ = some (.func (.func 60) #[] #[.pointer (some ⟨d, 0, none⟩)]) ∧
        W.cell? ⟨c5, 0, none⟩ = some (.int .i64 (i + 1)) ∧ W.cell? ⟨c5, 1, none⟩ = some (.int .i64 off) ∧ W.cell? ⟨c5, 2, none⟩ = some (.int .i64 len) := fun W hg => by
        have e1 : W.cell? ⟨w.heap.size, 0, none⟩ = W2.cell? ⟨w.heap.size, 0, none⟩ := World.cell?_of_block (hg.block _ (block_lt q1) (fun e => (hne _ e.symm).2.1 rfl))
        have e2 : ∀ j, W.cell? ⟨c5, j, none⟩ = W2.cell? ⟨c5, j, none⟩ := fun j => World.cell?_of_block (hg.block _ hc5l (fun e => (hne _ e.symm).1 rfl))
        exact ⟨e1.trans q1, (e2 0).trans g0, (e2 1).trans g1, (e2 2).trans g2⟩
      refine wpIn_round_held (fun W => W.cell? ⟨w.heap.size, 0, none⟩ = some (.func (.func 60) #[] #[.pointer (some ⟨d, 0, none⟩)]) ∧
        W.cell? ⟨c5, 0, none⟩ = some (.int .i64 (i + 1)) ∧ W.cell? ⟨c5, 1, none⟩ = some (.int .i64 off) ∧ W.cell? ⟨c5, 2, none⟩ = some (.int .i64 len)) (by kernel_rfl) (by rintro ⟨a, w, h⟩; exact h) (by kernel_rfl) ?_
      refine wpAnyH_take (i := 1) (v := .func (.func 60) #[] #[.pointer (some ⟨d, 0, none⟩)]) (fuel := 6) rfl (by kernel_rfl) (by kernel_rfl) (by kernel_rfl) (fun _ _ _ h => h) (.inl ⟨rfl, fun W hS => by obtain ⟨e2, e3, e4, e5⟩ := hS; go_simp⟩) ⟨q1, g0, g1, g2⟩ ?_
      refine wpAnyH_take (i := 2) (v := .agg #[.int .i64 (i + 1), .int .i64 off, .int .i64 len]) (fuel := 5) rfl (by kernel_rfl) (by kernel_rfl) (by kernel_rfl) (fun _ _ _ h => h) (.inl ⟨rfl, fun W hS => by obtain ⟨e2, e3, e4, e5⟩ := hS; go_simp⟩) ⟨q1, g0, g1, g2⟩ ?_
      refine wpAnyH_two (i := 0) (j := 3) (fuel := 4) rfl rfl (by kernel_rfl) rfl rfl (fun K' hK => ?_) (fun K' hK => ?_)
      · go_simp
        refine hK _ _ ⟨q1, g0, g1, g2⟩ ?_
        clear hK K'
        refine wpAnyH_one (i := 3) (fuel := 3) rfl (by kernel_rfl) rfl fun K' hK => ?_
        go_simp
        refine (hcall _ (by exact hd2)).mono ?_
        rintro e w5 ⟨rfl, hx5⟩
        have hx5' : Ext W2 w5 := Ext.trans (Ext.drew (Ext.refl W2)) hx5
        refine hK _ _ (hcells _ (grownBy_ext hx5' _)) ?_
        clear hK K'
        refine wpAnyH_one (i := 4) (fuel := 2) rfl (by kernel_rfl) rfl fun K' hK => ?_
        go_simp
        refine hK _ _ (hcells _ (grownBy_ext (hx5'.alloc _) _)) ?_
        clear hK K'
        obtain ⟨v', w7, hrun, hown', hgrow, hnil, hat⟩ := append_cell (w5.alloc (.cells #[.int .i64 (i + 1), .string (cellS p i).2] 85)) (w.heap.size + 5) v (usedL p i).length (flatC (usedL p i)) (ownsRow_ext hown (hx5'.alloc _)) ⟨w5.heap.size, 0, none⟩ (.int .i64 (i + 1)) (.string (cellS p i).2) (two_cells _ _ _ _) rfl rfl (by omega) (by have := hx5'.size; simp [World.size_alloc] at this ⊢; omega)
        refine wpAnyH_one (i := 5) (fuel := 1) rfl (by kernel_rfl) rfl fun K' hK => ?_
        refine wp_append_at (.tmp 13) (.tmp 17) 81 rfl v (.slice (some ⟨w5.heap.size, 0, none⟩) 1 1) rfl rfl hrun ?_
        have hg7 : W2.grownBy w7 v.ownBlock := (grownBy_ext (hx5'.alloc _) _).trans hgrow
        refine hK _ _ (hcells _ hg7) ?_
        clear hK K'
        obtain ⟨g', cap', rfl⟩ := ownsRow_succ hown'
        have k7 : Boxed w7 (w.heap.size + 1) 81 v := (hg7.block _ (block_lt q2) (fun e => (hne _ e.symm).2.2.1 rfl)).trans h2
        have k1 : Boxed w7 w.heap.size 97 _ := (hg7.block _ (block_lt q1) (fun e => (hne _ e.symm).2.1 rfl)).trans h1
        have k3 : Boxed w7 (w.heap.size + 2) 9 _ := (hg7.block _ (by omega) (fun e => (hne _ e.symm).2.2.2.1 rfl)).trans h3
        have q7 := k7.cell
        have f7 := k7.frozen
        refine wpAnyH_one (i := 6) (fuel := 0) rfl (by kernel_rfl) rfl fun K' hK => ?_
        go_simp
        have hkc := hcells _ hg7
        have hu : ∀ u, Upd w7 (w.heap.size + 1) (w7.setCell ⟨w.heap.size + 1, 0, none⟩ u) := fun u => Upd.setCell w7 _ 0 u
        refine hK _ _ ⟨(hu _).cell hkc.1 (by simp), (hu _).cell hkc.2.1 (by simp; omega), (hu _).cell hkc.2.2.1 (by simp; omega), (hu _).cell hkc.2.2.2 (by simp; omega)⟩ ?_
        clear hK K'
        refine wpAnyH_done (by kernel_rfl) ?_ 0
        have hbk : ∀ u k, k ≠ w.heap.size + 1 → k < W2.heap.size → v.ownBlock ≠ some k → (w7.setCell ⟨w.heap.size + 1, 0, none⟩ u).heap[k]? = W2.heap[k]? := fun u k n1 n2 n3 =>
          (Below.heap_setCell _ _ _ k n1).trans (hg7.block k n2 (fun e => n3 e.symm))
        have hxf : ∀ u, Ext w (w7.setCell ⟨w.heap.size + 1, 0, none⟩ u) := fun u =>
          Ext.setCell (Below.grown hx hg7 hx.size (fun k hk => by have := (hown.lt k hk).1; omega)) (Nat.le_succ _) u
        refine ⟨hbk _ _ (by omega) (by omega) (fun e => (hne _ e).2.2.2.2.1 (by omega)), hbk _ _ (by omega) (by omega) (fun e => (hne _ e).2.2.2.2.2 (by omega)), k1.other (by omega) _, k3.other (by omega) _, hxf _, _, k7.set _, ?_⟩
        rw [hE.out]
        have hk := hown'.kept (grownBy_setCell' w7 (w.heap.size + 1) (.slice (some ⟨g', 0, none⟩) ((usedL p i).length + 1) cap')) (.inr (by simp [Value.ownBlock]; have := (hown'.lt g' rfl).1; omega))
        rw [flatC_snoc, List.length_append]
        exact hk
      · go_simp
        refine (hcall _ (by exact hd2)).mono ?_
        rintro e w5 ⟨rfl, hx5⟩
        have hx5' : Ext W2 w5 := Ext.trans (Ext.drew (Ext.refl W2)) hx5
        refine hK _ _ (hcells _ (grownBy_ext hx5' _)) ?_
        clear hK K'
        have q5 := hx5'.cell q2
        refine wpAnyH_two (i := 0) (j := 4) (fuel := 3) rfl rfl (by kernel_rfl) rfl rfl (fun K' hK => ?_) (fun K' hK => ?_)
        · go_simp
          refine hK _ _ (hcells _ (grownBy_ext hx5' _)) ?_
          clear hK K'
          refine wpAnyH_one (i := 4) (fuel := 2) rfl (by kernel_rfl) rfl fun K' hK => ?_
          go_simp
          refine hK _ _ (hcells _ (grownBy_ext (hx5'.alloc _) _)) ?_
          clear hK K'
          obtain ⟨v', w7, hrun, hown', hgrow, hnil, hat⟩ := append_cell (w5.alloc (.cells #[.int .i64 (i + 1), .string (cellS p i).2] 85)) (w.heap.size + 5) v (usedL p i).length (flatC (usedL p i)) (ownsRow_ext hown (hx5'.alloc _)) ⟨w5.heap.size, 0, none⟩ (.int .i64 (i + 1)) (.string (cellS p i).2) (two_cells _ _ _ _) rfl rfl (by omega) (by have := hx5'.size; simp [World.size_alloc] at this ⊢; omega)
          refine wpAnyH_one (i := 5) (fuel := 1) rfl (by kernel_rfl) rfl fun K' hK => ?_
          refine wp_append_at (.tmp 13) (.tmp 17) 81 rfl v (.slice (some ⟨w5.heap.size, 0, none⟩) 1 1) rfl rfl hrun ?_
          have hg7 : W2.grownBy w7 v.ownBlock := (grownBy_ext (hx5'.alloc _) _).trans hgrow
          refine hK _ _ (hcells _ hg7) ?_
          clear hK K'
          obtain ⟨g', cap', rfl⟩ := ownsRow_succ hown'
          have k7 : Boxed w7 (w.heap.size + 1) 81 v := (hg7.block _ (block_lt q2) (fun e => (hne _ e.symm).2.2.1 rfl)).trans h2
          have k1 : Boxed w7 w.heap.size 97 _ := (hg7.block _ (block_lt q1) (fun e => (hne _ e.symm).2.1 rfl)).trans h1
          have k3 : Boxed w7 (w.heap.size + 2) 9 _ := (hg7.block _ (by omega) (fun e => (hne _ e.symm).2.2.2.1 rfl)).trans h3
          have q7 := k7.cell
          have f7 := k7.frozen
          refine wpAnyH_one (i := 6) (fuel := 0) rfl (by kernel_rfl) rfl fun K' hK => ?_
          go_simp
          have hkc := hcells _ hg7
          have hu : ∀ u, Upd w7 (w.heap.size + 1) (w7.setCell ⟨w.heap.size + 1, 0, none⟩ u) := fun u => Upd.setCell w7 _ 0 u
          refine hK _ _ ⟨(hu _).cell hkc.1 (by simp), (hu _).cell hkc.2.1 (by simp; omega), (hu _).cell hkc.2.2.1 (by simp; omega), (hu _).cell hkc.2.2.2 (by simp; omega)⟩ ?_
          clear hK K'
          refine wpAnyH_done (by kernel_rfl) ?_ 0
          have hbk : ∀ u k, k ≠ w.heap.size + 1 → k < W2.heap.size → v.ownBlock ≠ some k → (w7.setCell ⟨w.heap.size + 1, 0, none⟩ u).heap[k]? = W2.heap[k]? := fun u k n1 n2 n3 =>
            (Below.heap_setCell _ _ _ k n1).trans (hg7.block k n2 (fun e => n3 e.symm))
          have hxf : ∀ u, Ext w (w7.setCell ⟨w.heap.size + 1, 0, none⟩ u) := fun u =>
            Ext.setCell (Below.grown hx hg7 hx.size (fun k hk => by have := (hown.lt k hk).1; omega)) (Nat.le_succ _) u
          refine ⟨hbk _ _ (by omega) (by omega) (fun e => (hne _ e).2.2.2.2.1 (by omega)), hbk _ _ (by omega) (by omega) (fun e => (hne _ e).2.2.2.2.2 (by omega)), k1.other (by omega) _, k3.other (by omega) _, hxf _, _, k7.set _, ?_⟩
          rw [hE.out]
          have hk := hown'.kept (grownBy_setCell' w7 (w.heap.size + 1) (.slice (some ⟨g', 0, none⟩) ((usedL p i).length + 1) cap')) (.inr (by simp [Value.ownBlock]; have := (hown'.lt g' rfl).1; omega))
          rw [flatC_snoc, List.length_append]
          exact hk
        · go_simp
          refine hK _ _ (hcells _ (grownBy_ext (hx5'.alloc _) _)) ?_
          clear hK K'
          have q6 := (hx5'.alloc (.cells #[.int .i64 (i + 1), .string (cellS p i).2] 85)).cell q2
          refine wpAnyH_one (i := 0) (fuel := 2) rfl (by kernel_rfl) rfl fun K' hK => ?_
          go_simp
          refine hK _ _ (hcells _ (grownBy_ext (hx5'.alloc _) _)) ?_
          clear hK K'
          obtain ⟨v', w7, hrun, hown', hgrow, hnil, hat⟩ := append_cell (w5.alloc (.cells #[.int .i64 (i + 1), .string (cellS p i).2] 85)) (w.heap.size + 5) v (usedL p i).length (flatC (usedL p i)) (ownsRow_ext hown (hx5'.alloc _)) ⟨w5.heap.size, 0, none⟩ (.int .i64 (i + 1)) (.string (cellS p i).2) (two_cells _ _ _ _) rfl rfl (by omega) (by have := hx5'.size; simp [World.size_alloc] at this ⊢; omega)
          refine wpAnyH_one (i := 5) (fuel := 1) rfl (by kernel_rfl) rfl fun K' hK => ?_
          refine wp_append_at (.tmp 13) (.tmp 17) 81 rfl v (.slice (some ⟨w5.heap.size, 0, none⟩) 1 1) rfl rfl hrun ?_
          have hg7 : W2.grownBy w7 v.ownBlock := (grownBy_ext (hx5'.alloc _) _).trans hgrow
          refine hK _ _ (hcells _ hg7) ?_
          clear hK K'
          obtain ⟨g', cap', rfl⟩ := ownsRow_succ hown'
          have k7 : Boxed w7 (w.heap.size + 1) 81 v := (hg7.block _ (block_lt q2) (fun e => (hne _ e.symm).2.2.1 rfl)).trans h2
          have k1 : Boxed w7 w.heap.size 97 _ := (hg7.block _ (block_lt q1) (fun e => (hne _ e.symm).2.1 rfl)).trans h1
          have k3 : Boxed w7 (w.heap.size + 2) 9 _ := (hg7.block _ (by omega) (fun e => (hne _ e.symm).2.2.2.1 rfl)).trans h3
          have q7 := k7.cell
          have f7 := k7.frozen
          refine wpAnyH_one (i := 6) (fuel := 0) rfl (by kernel_rfl) rfl fun K' hK => ?_
          go_simp
          have hkc := hcells _ hg7
          have hu : ∀ u, Upd w7 (w.heap.size + 1) (w7.setCell ⟨w.heap.size + 1, 0, none⟩ u) := fun u => Upd.setCell w7 _ 0 u
          refine hK _ _ ⟨(hu _).cell hkc.1 (by simp), (hu _).cell hkc.2.1 (by simp; omega), (hu _).cell hkc.2.2.1 (by simp; omega), (hu _).cell hkc.2.2.2 (by simp; omega)⟩ ?_
          clear hK K'
          refine wpAnyH_done (by kernel_rfl) ?_ 0
          have hbk : ∀ u k, k ≠ w.heap.size + 1 → k < W2.heap.size → v.ownBlock ≠ some k → (w7.setCell ⟨w.heap.size + 1, 0, none⟩ u).heap[k]? = W2.heap[k]? := fun u k n1 n2 n3 =>
            (Below.heap_setCell _ _ _ k n1).trans (hg7.block k n2 (fun e => n3 e.symm))
          have hxf : ∀ u, Ext w (w7.setCell ⟨w.heap.size + 1, 0, none⟩ u) := fun u =>
            Ext.setCell (Below.grown hx hg7 hx.size (fun k hk => by have := (hown.lt k hk).1; omega)) (Nat.le_succ _) u
          refine ⟨hbk _ _ (by omega) (by omega) (fun e => (hne _ e).2.2.2.2.1 (by omega)), hbk _ _ (by omega) (by omega) (fun e => (hne _ e).2.2.2.2.2 (by omega)), k1.other (by omega) _, k3.other (by omega) _, hxf _, _, k7.set _, ?_⟩
          rw [hE.out]
          have hk := hown'.kept (grownBy_setCell' w7 (w.heap.size + 1) (.slice (some ⟨g', 0, none⟩) ((usedL p i).length + 1) cap')) (.inr (by simp [Value.ownBlock]; have := (hown'.lt g' rfl).1; omega))
          rw [flatC_snoc, List.length_append]
          exact hk
  case done =>
    rintro W ⟨h1, h3, hx, v, h2, hown⟩ hD
    have q2 := h2.cell
    refine wpAt_of_wp ?_
    go_wp2
    refine ⟨by simp, .inl ⟨_, _, rfl, run_takeDeferred (by rw [← hsz]; exact hD), ?_⟩⟩
    rw [← hsz]
    refine ⟨_, results_tmp rfl _ _ _, v, rfl, ?_, Upd.ext hx (grownBy_putObj' _ _ _) (by omega)⟩
    exact ownsRow_base (ownsRow_upd hown (grownBy_putObj' _ _ _) (by omega)) (by omega)
end Go.Proofs.Ytnileonlabpbpaa
