/- CaN; CaH; TxA; TxB; TxC (merged by group.py) -/
import Derived.Test.YtcbinafokhekmaaGreatDoorQ09
import Derived.Test.YtcbinafokhekmaaGreatDoorQ05
import Derived.Lib.ItoaMem
import Derived.Lib.AtoiAll
import Derived.Lib.Split
import Derived.Lib.Join
import Derived.Test.YtcbinafokhekmaaGreatDoorQ00
import Derived.Laws.Runes
namespace Go.Proofs.YtcbinafokhekmaaGreatDoor
section
open Go.RowKit
set_option linter.unusedVariables false
set_option linter.unusedSimpArgs false
set_option linter.unusedSectionVars false
set_option maxRecDepth 100000
attribute [local go_sem] Oper.semAt_some

def bk0 : BkR := ((none, 0, []), -1)
def repB (n : Nat) : List BkR := List.replicate n bk0
theorem repB_len (n : Nat) : (repB n).length = n := by simp [repB]
theorem repB_succ (n : Nat) : repB (n + 1) = repB n ++ [bk0] := by
  unfold repB
  exact List.replicate_succ'
theorem repB_abs (n : Nat) : absT (repB n) = emptyT n := by
  unfold absT repB emptyT
  rw [List.map_replicate]
  rfl
theorem repB_mem {n : Nat} {x : BkR} (h : x ∈ repB n) : x = bk0 := List.eq_of_mem_replicate h
theorem repB_new {w : World} {base n : Nat} {v : Value} (h : OwnG csBk 54 2 w base v (repB n)) : NewB w base v (repB n) :=
  ⟨h, fun x hx => by rw [repB_mem hx]; exact SlH.empty w, fun g _ x hx => by rw [repB_mem hx]; exact OffH.empty _⟩
set_option maxHeartbeats 4000000 in
theorem rempty_any (FF : Nat → Prop) (h r : Nat) (w : World) (hh : h ≤ 1000) (hr : r ≤ 1000) :
    Calls Tryz.prog 76 #[.int .i64 h, .int .i64 r] w (TabPost FF h r (emptyT h) w) := by
  have hx1 := (Ext.refl w).alloc (.cells #[.int .i64 0, .int .i64 0, .slice none 0 0] 28)
  have hx2 := hx1.alloc (.cells #[.int .i64 h, .int .i64 r, .slice none 0 0] 28)
  have hB := (BoxN.new w 28 #[.int .i64 0, .int .i64 0, .slice none 0 0]).ext ((Ext.refl _).alloc (.cells #[.int .i64 h, .int .i64 r, .slice none 0 0] 28))
  have hA := BoxN.new (w.alloc (.cells #[.int .i64 0, .int .i64 0, .slice none 0 0] 28)) 28 #[.int .i64 h, .int .i64 r, .slice none 0 0]
  rw [show (w.alloc (.cells #[.int .i64 0, .int .i64 0, .slice none 0 0] 28)).heap.size = w.heap.size + 1 from by simp] at hA
  have hsz : w.heap.size + 2 ≤ ((w.alloc (.cells #[.int .i64 0, .int .i64 0, .slice none 0 0] 28)).alloc (.cells #[.int .i64 h, .int .i64 r, .slice none 0 0] 28)).heap.size := by simp
  go_enter Tryz.func76, Tryz.ntmps76
  go_wp2
  generalize ((w.alloc (.cells #[.int .i64 0, .int .i64 0, .slice none 0 0] 28)).alloc (.cells #[.int .i64 h, .int .i64 r, .slice none 0 0] 28)) = W at *
  go_loopw [6] (fun i wr => ∃ (j : Nat) (P : Option Addr) (c : Nat), j ≤ h ∧ i = .int .i64 j ∧ OwnG csBk 54 2 wr (w.heap.size + 2) (.slice P j c) (repB j) ∧ BoxN wr (w.heap.size + 1) 28 #[.int .i64 h, .int .i64 r, .slice P j c] ∧ BoxN wr w.heap.size 28 #[.int .i64 0, .int .i64 0, .slice none 0 0] ∧ Ext w wr) (fun i _ => h - (intOf i).toNat)
  case atStart => exact ⟨0, none, 0, by omega, rfl, OwnG.nil _ _ _ _ _, hA, hB, hx2⟩
  case round =>
    obtain ⟨j, P, c, hj, rfl, ho, hA, hB, hx⟩ := hrel
    by_cases hlt : j < h
    · have cj : (j : Int) < h := by omega
      have d1 : IntKind.i64.wrap ((j : Int) + 1) = (j : Int) + 1 := IntWalk.i64_in _ ⟨by omega, by omega⟩
      have a2 := hA.cell (i := 2) rfl
      have HO := Lib.hid ho
      have hlt1 := hA.lt
      clear ho
      go_wp2_with (at_builtin; refine wpList_app_U _ elemBk rfl _ _ rfl (base := w.heap.size + 2) rfl (HO.out.ext ((Ext.refl _).alloc _)) (m := [bk0]) rfl (SlG.one elemBk.hk _ ?c1 ?c2) ?c3 ?c4 ?c5 ?c6 ?_)
      all_goals first
        | rfl
        | (intro e; cases e; done)
        | (simp; done)
        | (rw [repB_len]; simp; omega; done)
        | (simp; omega; done)
        | skip
      intro v7 w7 ho7 hg7 hb7 hob7
      have hx7 : Ext wr w7 ∨ True := .inr trivial
      have hu := UpdF.of_grown hg7
      have hF : ∀ i, (Value.slice P j c).ownBlock = some i → w.heap.size + 2 ≤ i := fun i hi => (own_lt HO.out hi).1
      have hA7 := (hA.ext ((Ext.refl wr).alloc (.cells #[.slice none 0 0, .int .i64 (-1)] 54))).upd hu (fun hf => by have := hF _ hf; omega)
      have hB7 := (hB.ext ((Ext.refl wr).alloc (.cells #[.slice none 0 0, .int .i64 (-1)] 54))).upd hu (fun hf => by have := hF _ hf; omega)
      have hxx := hu.ext (hx.alloc (.cells #[.slice none 0 0, .int .i64 (-1)] 54)) (fun i hi => by have := hF _ hi; omega)
      have ho8 : OwnG csBk 54 2 w7 (w.heap.size + 2) v7 (repB (j + 1)) := by rw [repB_succ]; exact ho7
      obtain ⟨P7, c7, rfl, _⟩ := ho8.read elemBk (by rw [repB_len]; omega)
      rw [repB_len] at ho8 ⊢
      have f7 := hA7.frozen 2
      have a7 := hA7.cell (i := 2) rfl
      have HO8 := Lib.hid (ho8.upd ((UpdF.refl (fun i => i = w.heap.size + 1) w7).setCell (p := ⟨w.heap.size + 1, 2, none⟩) (.inl rfl) (.slice P7 (j + 1) c7)) (fun g hg e => by have := (own_lt ho8 hg).1; omega))
      have HA8 := Lib.hid (hA7.set 2 (.slice P7 (j + 1) c7))
      have HB8 := Lib.hid (hB7.far (p := ⟨w.heap.size + 1, 2, none⟩) (by simp) (.slice P7 (j + 1) c7))
      have HX8 := Lib.hid (hxx.setCell (p := ⟨w.heap.size + 1, 2, none⟩) (by simp) (.slice P7 (j + 1) c7))
      clear ho7 ho8 hg7 hb7 hob7 hu hF hA7 hB7 hxx a2 hx7
      go_wp2
      go_roundw
      case rel => exact ⟨j + 1, P7, c7, by omega, by go_num, HO8.out, HA8.out, HB8.out, HX8.out⟩
      case measure => simp [intOf]; omega
    · obtain rfl : j = h := by omega
      have hN := repB_new (show OwnG csBk 54 2 wr (w.heap.size + 2) (.slice P j c) (repB j) from ho)
      have a0 := hA.cell (i := 0) rfl
      have a1 := hA.cell (i := 1) rfl
      have a2 := hA.cell (i := 2) rfl
      have b0 := hB.cell (i := 0) rfl
      have b1 := hB.cell (i := 1) rfl
      have b2 := hB.cell (i := 2) rfl
      have q0 := hB.frozen 0
      have q1 := hB.frozen 1
      have q2 := hB.frozen 2
      have hB3 := ((hB.set 0 (.int .i64 j)).set 1 (.int .i64 r)).set 2 (.slice P j c)
      have z0 := hB3.cell (i := 0) (v := .int .i64 j) rfl
      have z1 := hB3.cell (i := 1) (v := .int .i64 r) rfl
      have z2 := hB3.cell (i := 2) (v := .slice P j c) rfl
      have HU := Lib.hid ((((UpdF.refl (fun i => i = w.heap.size) wr).setCell (p := ⟨w.heap.size, 0, none⟩) (.inl rfl) (.int .i64 j)).setCell (p := ⟨w.heap.size, 1, none⟩) (.inl rfl) (.int .i64 r)).setCell (p := ⟨w.heap.size, 2, none⟩) (.inl rfl) (.slice P j c))
      go_wp2
      exact bodyPost_ret (v := .agg #[.int .i64 j, .int .i64 r, .slice P j c]) (by simp [results, Tryz.results76, go_sem, z0, z1, z2]) rfl ⟨_, repB j, rfl, (hN.upd HU.out (fun g hg e => by have := (own_lt hN.own hg).1; omega) (fun x hx => by rw [repB_mem hx]; exact OffH.empty _)).lower (by omega), repB_abs j, (fun x hx => by rw [repB_mem hx]; exact OffH.empty _), HU.out.ext hx (fun i hi => by omega)⟩
end
section
open Go.RowKit
set_option linter.unusedVariables false
set_option maxRecDepth 20000
set_option linter.unusedSimpArgs false
set_option linter.unusedSectionVars false
set_option maxRecDepth 100000
attribute [local go_sem] Oper.semAt_some

theorem join2 (a b : List UInt8) (l : List (List UInt8)) (s : List UInt8) : Lib.join (a :: b :: l) s = a ++ s ++ Lib.join (b :: l) s := by
  simp [Lib.join, List.intercalate]
theorem join1 (a : List UInt8) (s : List UInt8) : Lib.join [a] s = a := by simp [Lib.join, List.intercalate]
theorem byteU_Nall (s : ByteArray) (i : Nat) : byteN s i = ((byteU s i).toNat : Int) := by
  by_cases h : i < s.size
  · exact byteU_N s i h
  · have e : byteU s i = 0 := by
      unfold byteU
      rw [List.getD_eq_getElem?_getD, List.getElem?_eq_none (by simpa using h)]
      rfl
    rw [e]
    unfold byteN
    rw [dif_neg h]
    rfl
def hstep (h : Int) (c : UInt8) : Int := IntKind.u64.wrap (bits .xor .u64 h (c.toNat : Int) * 1099511628211)
def hashN (s : ByteArray) : Nat → Int
  | 0 => 14695981039346656037
  | n + 1 => hstep (hashN s n) (byteU s n)
def hashF (s : ByteArray) : Int := hashN s s.size
theorem hash_any (s : ByteArray) (w : World) (hs : s.size ≤ 140737488355328) :
    Calls Tryz.prog 117 #[.string s] w fun e w' => e = .returned (.int .u64 (hashF s)) ∧ w = w' := by
  go_enter Tryz.func117, Tryz.ntmps117
  go_wp2
  go_loopw [7, 3, 4] (fun i v _ wr => ∃ k : Nat, k ≤ s.size ∧ i = .int .i64 k ∧ v = .int .u64 (hashN s k) ∧ w = wr) (fun i _ _ _ => s.size - (intOf i).toNat)
  case atStart => exact ⟨0, by omega, rfl, rfl, rfl⟩
  case round =>
    obtain ⟨k, hk, rfl, rfl, rfl⟩ := hrel
    by_cases hlt : k < s.size
    · have c1 : (k : Int) < s.size := by omega
      have d1 : IntKind.i64.wrap ((k : Int) + 1) = (k : Int) + 1 := IntWalk.i64_in _ ⟨by omega, by omega⟩
      have hi := fun W => str_index s k hlt W
      rw [byteU_Nall] at hi
      have HS := Lib.hid (show hashN s (k + 1) = hstep (hashN s k) (byteU s k) from rfl)
      unfold hstep at HS
      have hc := (byteU s k).toNat_lt
      have d2 : IntKind.u64.wrap ((byteU s k).toNat : Int) = ((byteU s k).toNat : Int) := by simp [IntKind.wrap, IntKind.bits, IntKind.signed]; omega
      generalize byteU s k = u at *
      generalize hashN s k = h at *
      go_wp2
      go_roundw
      case rel => exact ⟨k + 1, by omega, by go_num, by rw [HS.out], by first | trivial | rfl⟩
      case measure => simp [intOf]; omega
    · obtain rfl : k = s.size := by omega
      go_wp2
      go_ret
      exact ⟨rfl, rfl⟩
theorem rhash_any (s : ByteArray) (w : World) (hs : s.size ≤ 140737488355328) :
    Calls Tryz.prog 81 #[.string s] w fun e w' => e = .returned (.int .u64 (hashF s)) ∧ w = w' := by
  go_enter Tryz.func81, Tryz.ntmps81
  go_wp2
  go_loopw [4, 3] (fun i v wr => ∃ k : Nat, k ≤ s.size ∧ i = .int .i64 k ∧ v = .int .u64 (hashN s k) ∧ w = wr) (fun i _ _ => s.size - (intOf i).toNat)
  case atStart => exact ⟨0, by omega, rfl, rfl, rfl⟩
  case round =>
    obtain ⟨k, hk, rfl, rfl, rfl⟩ := hrel
    by_cases hlt : k < s.size
    · have c1 : (k : Int) < s.size := by omega
      have d1 : IntKind.i64.wrap ((k : Int) + 1) = (k : Int) + 1 := IntWalk.i64_in _ ⟨by omega, by omega⟩
      have hi := fun W => str_index s k hlt W
      rw [byteU_Nall] at hi
      have HS := Lib.hid (show hashN s (k + 1) = hstep (hashN s k) (byteU s k) from rfl)
      unfold hstep at HS
      have hc := (byteU s k).toNat_lt
      have d2 : IntKind.u64.wrap ((byteU s k).toNat : Int) = ((byteU s k).toNat : Int) := by simp [IntKind.wrap, IntKind.bits, IntKind.signed]; omega
      generalize byteU s k = u at *
      generalize hashN s k = h at *
      go_wp2
      go_roundw
      case rel => exact ⟨k + 1, by omega, by go_num, by rw [HS.out], by first | trivial | rfl⟩
      case measure => simp [intOf]; omega
    · obtain rfl : k = s.size := by omega
      go_wp2
      go_ret
      exact ⟨rfl, rfl⟩
end
section
open Go
set_option linter.unusedVariables false
set_option maxRecDepth 20000
set_option linter.unusedSimpArgs false

/-! ### cuts -/
def hdc (x : UInt8) : List (List UInt8) → List (List UInt8)
  | [] => [[x]]
  | p :: q => (x :: p) :: q
/-- a text cut at each byte c -/
def cutC (c : UInt8) : List UInt8 → List (List UInt8)
  | [] => [[]]
  | x :: r => if x = c then [] :: cutC c r else hdc x (cutC c r)
theorem cutC_ne (c : UInt8) : ∀ s, cutC c s ≠ []
  | [] => by simp [cutC]
  | x :: r => by
    unfold cutC
    split
    · simp
    · cases h : cutC c r with
      | nil => simp [hdc]
      | cons p q => simp [hdc]
theorem cutC_app (c : UInt8) (r : List UInt8) : ∀ p : List UInt8, c ∉ p → cutC c (p ++ c :: r) = p :: cutC c r
  | [], _ => by simp [cutC]
  | x :: p, h => by
    simp only [List.mem_cons, not_or] at h
    rw [List.cons_append, cutC, if_neg (fun e => h.1 e.symm), cutC_app c r p h.2]
    rfl
theorem cutC_none (c : UInt8) : ∀ p : List UInt8, c ∉ p → cutC c p = [p]
  | [], _ => by simp [cutC]
  | x :: p, h => by
    simp only [List.mem_cons, not_or] at h
    rw [cutC, if_neg (fun e => h.1 e.symm), cutC_none c p h.2]
    rfl
theorem cutC_len (c : UInt8) : ∀ s, (cutC c s).length ≤ s.length + 1
  | [] => by simp [cutC]
  | x :: r => by
    have := cutC_len c r
    unfold cutC
    split
    · simp; omega
    · cases h : cutC c r with
      | nil => simp [hdc]
      | cons p q => rw [h] at this; simp [hdc] at *; omega
theorem cutC_mem (c : UInt8) : ∀ s, ∀ p ∈ cutC c s, p.length ≤ s.length
  | [], p, h => by simp [cutC] at h; simp [h]
  | x :: r, p, h => by
    unfold cutC at h
    split at h
    · rcases List.mem_cons.1 h with rfl | h
      · simp
      · have := cutC_mem c r p h; simp; omega
    · have hm := cutC_mem c r
      cases h' : cutC c r with
      | nil => rw [h'] at h; simp [hdc] at h; simp [h]
      | cons a q =>
        rw [h'] at h hm
        simp only [hdc, List.mem_cons] at h
        rcases h with rfl | h
        · have := hm a (by simp); simp; omega
        · have := hm p (by simp [h]); simp; omega
/-- where the first byte c stands -/
theorem first_of {c : UInt8} : ∀ {s : List UInt8}, c ∈ s → ∃ p r, s = p ++ c :: r ∧ c ∉ p
  | [], h => by simp at h
  | x :: s, h => by
    by_cases e : x = c
    · exact ⟨[], s, by simp [e], by simp⟩
    · obtain ⟨p, r, h1, h2⟩ := first_of (s := s) (by simpa [Ne.symm e] using h)
      exact ⟨x :: p, r, by simp [h1], by simp [h2, Ne.symm e]⟩
theorem index_c_hit (c : UInt8) (r : List UInt8) : ∀ p : List UInt8, c ∉ p → Lib.index (p ++ c :: r) [c] = p.length
  | [], _ => by simp [Lib.index]
  | x :: p, h => by
    simp only [List.mem_cons, not_or] at h
    rw [List.cons_append, Lib.index, index_c_hit c r p h.2]
    have h1 : (c == x) = false := by simpa using h.1
    have h2 : (((p.length : Nat) : Int) == -1) = false := by rw [beq_eq_false_iff_ne]; omega
    simp [List.isPrefixOf, h1, h2]
theorem index_c_none (c : UInt8) : ∀ p : List UInt8, c ∉ p → Lib.index p [c] = -1
  | [], _ => by simp [Lib.index]
  | x :: p, h => by
    simp only [List.mem_cons, not_or] at h
    rw [Lib.index, index_c_none c p h.2]
    have h1 : (c == x) = false := by simpa using h.1
    simp [List.isPrefixOf, h1]
/-- strings.Split at one byte -/
theorem split_cut (c : UInt8) : ∀ (n : Nat) (s : List UInt8), s.length ≤ n → Lib.splitK [c] 0 (Lib.count s [c]) s = cutC c s := by
  intro n
  induction n with
  | zero =>
    intro s h
    have : s = [] := List.eq_nil_of_length_eq_zero (by omega)
    subst this
    rw [Lib.count_miss (by simp [Lib.index])]
    rfl
  | succ n ih =>
    intro s h
    by_cases hc : c ∈ s
    · obtain ⟨p, r, rfl, hp⟩ := first_of hc
      have hi := index_c_hit c r p hp
      have hd : (p ++ c :: r).drop (p.length + 1) = r := by rw [List.drop_append]; simp
      have hs : (p ++ c :: r).drop (p.length + [c].length) = r := hd
      rw [Lib.count_hit (by simp) hi, hs, Nat.add_comm 1, Lib.splitK, hi, cutC_app c r p hp]
      have h2 : ¬ (((p.length : Nat) : Int) == -1) = true := by rw [beq_iff_eq]; omega
      rw [if_neg h2, Int.toNat_natCast, hs, Nat.add_zero, ih r (by simp at h; omega)]
      rw [List.take_append]
      simp
    · have hi := index_c_none c s hc
      rw [Lib.count_miss hi, cutC_none c s hc]
      rfl
theorem count_cut (c : UInt8) (s : List UInt8) : Lib.count s [c] + 1 = (cutC c s).length := by
  have key : ∀ (n : Nat) (s : List UInt8), s.length ≤ n → Lib.count s [c] + 1 = (cutC c s).length := by
    intro n
    induction n with
    | zero =>
      intro s h
      have : s = [] := List.eq_nil_of_length_eq_zero (by omega)
      subst this
      rw [Lib.count_miss (by simp [Lib.index])]
      rfl
    | succ n ih =>
      intro s h
      by_cases hc : c ∈ s
      · obtain ⟨p, r, rfl, hp⟩ := first_of hc
        have hi := index_c_hit c r p hp
        have hd : (p ++ c :: r).drop (p.length + [c].length) = r := by rw [List.drop_append]; simp
        rw [Lib.count_hit (by simp) hi, hd, cutC_app c r p hp, List.length_cons, ← ih r (by simp at h; omega)]
        omega
      · rw [Lib.count_miss (index_c_none c s hc), cutC_none c s hc]; rfl
  exact key s.length s (Nat.le_refl _)
/-- pieces joined by a byte, cut again -/
theorem cutC_join (c : UInt8) : ∀ (ws : List (List UInt8)), ws ≠ [] → (∀ x ∈ ws, c ∉ x) → cutC c (Lib.join ws [c]) = ws
  | [], h, _ => absurd rfl h
  | [a], _, h => by simpa [Lib.join, List.intercalate] using cutC_none c a (h a (by simp))
  | a :: b :: l, _, h => by
    have := cutC_join c (b :: l) (by simp) (fun x hx => h x (by simp [List.mem_cons.1 hx]))
    have e : Lib.join (a :: b :: l) [c] = a ++ c :: Lib.join (b :: l) [c] := by simp [Lib.join, List.intercalate, List.intersperse]
    rw [e, cutC_app c _ a (h a (by simp)), this]

/-! ### lines: strings.Lines -/
def linesC : List UInt8 → List (List UInt8)
  | [] => []
  | x :: r => if x = 10 then [10] :: linesC r else hdc x (linesC r)
theorem linesC_app (r : List UInt8) : ∀ p : List UInt8, (10 : UInt8) ∉ p → linesC (p ++ 10 :: r) = (p ++ [10]) :: linesC r
  | [], _ => by simp [linesC]
  | x :: p, h => by
    simp only [List.mem_cons, not_or] at h
    rw [List.cons_append, linesC, if_neg (fun e => h.1 e.symm), linesC_app r p h.2]
    rfl
theorem linesC_none : ∀ p : List UInt8, (10 : UInt8) ∉ p → p ≠ [] → linesC p = [p]
  | [], _, h => absurd rfl h
  | x :: p, h, _ => by
    simp only [List.mem_cons, not_or] at h
    rw [linesC, if_neg (fun e => h.1 e.symm)]
    by_cases hp : p = []
    · subst hp; rfl
    · rw [linesC_none p h.2 hp]; rfl

/-! ### numerals -/
theorem dec_ne (u : Nat) : Lib.decDigits u ≠ [] := by
  rw [Lib.decDigits]; split <;> simp
theorem dec_digit : ∀ (u : Nat), ∀ c ∈ Lib.decDigits u, 48 ≤ c.toNat ∧ c.toNat ≤ 57 := by
  intro u
  induction u using Nat.strongRecOn with
  | _ u ih =>
    intro c hc
    rw [Lib.decDigits] at hc
    split at hc
    · simp at hc; subst hc; simp; omega
    · rcases List.mem_append.1 hc with h | h
      · exact ih (u / 10) (by omega) c h
      · simp at h; subst h; simp; omega
/-- the digits spelled -/
def spell (acc : Nat) : List UInt8 → Nat
  | [] => acc
  | c :: r => spell (acc * 10 + (c.toNat - 48)) r
theorem spell_app (l : List UInt8) : ∀ (acc : Nat) (r : List UInt8), spell acc (l ++ r) = spell (spell acc l) r := by
  induction l with
  | nil => intro acc r; rfl
  | cons c l ih => intro acc r; exact ih _ r
theorem spell_dec : ∀ (u : Nat), spell 0 (Lib.decDigits u) = u := by
  intro u
  induction u using Nat.strongRecOn with
  | _ u ih =>
    by_cases h : u < 10
    · rw [Lib.decDigits, dif_pos h]
      have e : (UInt8.ofNat (48 + u)).toNat - 48 = u := by simp; omega
      show 0 * 10 + ((UInt8.ofNat (48 + u)).toNat - 48) = u
      rw [e]; omega
    · have h1 := ih (u / 10) (by omega)
      have e : (UInt8.ofNat (48 + u % 10)).toNat - 48 = u % 10 := by simp; omega
      rw [Lib.decDigits, dif_neg h]
      refine (spell_app (Lib.decDigits (u / 10)) 0 _).trans ?_
      generalize spell 0 (Lib.decDigits (u / 10)) = v at h1 ⊢
      subst h1
      show u / 10 * 10 + ((UInt8.ofNat (48 + u % 10)).toNat - 48) = u
      rw [e]; omega
theorem spell_ge : ∀ (l : List UInt8) (acc : Nat), acc ≤ spell acc l
  | [], acc => Nat.le_refl _
  | c :: r, acc => by
    have := spell_ge r (acc * 10 + (c.toNat - 48))
    show acc ≤ spell _ r
    omega
theorem parse_spell : ∀ (l : List UInt8) (acc : Nat), (∀ c ∈ l, 48 ≤ c.toNat ∧ c.toNat ≤ 57) → spell acc l < 18446744073709551616 → Lib.parseUint10 acc l = .ok (spell acc l)
  | [], acc, _, _ => rfl
  | c :: r, acc, hd, h => by
    have h0 := hd c (by simp)
    have h1 : spell (acc * 10 + (c.toNat - 48)) r < 18446744073709551616 := h
    have h2 := spell_ge r (acc * 10 + (c.toNat - 48))
    have ih := parse_spell r (acc * 10 + (c.toNat - 48)) (fun x hx => hd x (by simp [hx])) h1
    have g1 : ¬ 1844674407370955162 ≤ acc := by omega
    have g2 : ¬ 18446744073709551616 ≤ acc * 10 + (c.toNat - 48) := by omega
    simp only [Lib.parseUint10, if_pos h0, if_neg g1, if_neg g2]
    exact ih
theorem parse_dec (u : Nat) (h : u < 18446744073709551616) : Lib.parseMag (Lib.decDigits u) = .ok u := by
  unfold Lib.parseMag
  rw [if_neg (dec_ne u), parse_spell _ 0 (dec_digit u) (by rw [spell_dec]; exact h), spell_dec]
/-- Atoi of Itoa -/
theorem atoi_itoa (n : Int) (h0 : -9223372036854775808 ≤ n) (h1 : n ≤ 9223372036854775807) : Lib.atoiAll (Lib.itoa n) = .ok n := by
  unfold Lib.itoa
  split
  · rename_i hn
    have e : (45 : UInt8).toNat = 45 := by decide
    have e2 : (45 : UInt8).toNat = 43 ∨ (45 : UInt8).toNat = 45 := Or.inr e
    unfold Lib.atoiAll
    simp only [if_pos e2, parse_dec _ (show n.natAbs < 18446744073709551616 by omega)]
    simp only [e, not_true_eq_false, false_and, if_false, true_and]
    rw [if_neg (by omega)]
    simp only [if_true]
    congr 1; omega
  · rename_i hn
    cases hd : Lib.decDigits n.toNat with
    | nil => exact absurd hd (dec_ne _)
    | cons c r =>
      have hc := dec_digit n.toNat c (by rw [hd]; simp)
      unfold Lib.atoiAll
      simp only
      rw [if_neg (by omega), ← hd, parse_dec _ (by omega)]
      have e : ¬ c.toNat = 45 := by omega
      simp only [e, not_false_eq_true, true_and, false_and, if_false]
      rw [if_neg (by omega)]
      congr 1; omega
/-- the number that Atoi tells, whatever the error -/
def atoiV (l : List UInt8) : Int := match Lib.atoiAll l with | .ok v => v | .range => Lib.atoiSat l | _ => 0
theorem atoiV_itoa (n : Int) (h0 : -9223372036854775808 ≤ n) (h1 : n ≤ 9223372036854775807) : atoiV (Lib.itoa n) = n := by
  unfold atoiV; rw [atoi_itoa n h0 h1]
theorem itoa_bytes (n : Int) : ∀ c ∈ Lib.itoa n, c.toNat = 45 ∨ 48 ≤ c.toNat ∧ c.toNat ≤ 57 := by
  intro c hc
  unfold Lib.itoa at hc
  split at hc
  · rcases List.mem_cons.1 hc with rfl | h
    · exact Or.inl (by decide)
    · exact Or.inr (dec_digit _ c h)
  · exact Or.inr (dec_digit _ c hc)
theorem itoa_no (n : Int) (b : UInt8) (h : b.toNat ≠ 45 ∧ ¬ (48 ≤ b.toNat ∧ b.toNat ≤ 57)) : b ∉ Lib.itoa n := fun hm => by
  rcases itoa_bytes n b hm with h1 | h1
  · exact h.1 h1
  · exact h.2 h1
theorem itoa_ne (n : Int) : Lib.itoa n ≠ [] := by
  unfold Lib.itoa
  split
  · simp
  · exact dec_ne _
theorem dec_len (u : Nat) (k : Nat) (h : u < 10 ^ (k + 1)) : (Lib.decDigits u).length ≤ k + 1 := by
  rw [Lib.decDigits_length]
  induction k generalizing u with
  | zero => rw [Lib.nDigits_small (by simpa using h)]; omega
  | succ k ih =>
    by_cases hu : u < 10
    · rw [Lib.nDigits_small hu]; omega
    · rw [Lib.nDigits_big hu]
      have := ih (u / 10) (by rw [Nat.pow_succ] at h; omega)
      omega
end
section
open Go
set_option linter.unusedVariables false
set_option maxRecDepth 20000
set_option linter.unusedSimpArgs false

def isDg (c : UInt8) : Bool := decide (48 ≤ c.toNat) && decide (c.toNat ≤ 57)
/-- the digits at the front, 17 at most -/
def dgs (t : List UInt8) : List UInt8 := (t.take 17).takeWhile isDg
/-- a number at the front: its value, and how many bytes it has -/
def magF (minus : Bool) (t : List UInt8) : Int × Int :=
  if dgs t = [] ∨ 1 < (dgs t).length ∧ t.head? = some 48 ∨ minus = true ∧ spell 0 (dgs t) = 0 ∨ 17 ≤ (dgs t).length then (0, 0)
  else (if minus then -(spell 0 (dgs t) : Int) else spell 0 (dgs t), (dgs t).length + (if minus then 1 else 0))
def numF (t : List UInt8) : Int × Int := if t.head? = some 45 then magF true t.tail else magF false t
def wholeF (t : List UInt8) : Int × Bool := ((numF t).1, decide (0 < (numF t).2) && decide ((numF t).2 = t.length))
theorem takeWhile_all {l : List UInt8} (h : ∀ c ∈ l, isDg c = true) : l.takeWhile isDg = l := by
  induction l with
  | nil => rfl
  | cons c l ih => simp [List.takeWhile, h c (by simp), ih (fun x hx => h x (by simp [hx]))]
theorem dgs_all {l : List UInt8} (h : ∀ c ∈ l, isDg c = true) (hl : l.length ≤ 17) : dgs l = l := by
  unfold dgs
  rw [List.take_of_length_le hl, takeWhile_all h]
theorem dec_isDg (u : Nat) : ∀ c ∈ Lib.decDigits u, isDg c = true := fun c hc => by
  have := dec_digit u c hc
  simp [isDg, this]
theorem dec_head : ∀ (u : Nat), 1 ≤ u → (Lib.decDigits u).head? ≠ some 48 := by
  intro u
  induction u using Nat.strongRecOn with
  | _ u ih =>
    intro h1
    by_cases h : u < 10
    · rw [Lib.decDigits, dif_pos h]
      intro e
      simp only [List.head?_cons, Option.some.injEq] at e
      have := congrArg UInt8.toNat e
      simp at this
      omega
    · rw [Lib.decDigits, dif_neg h]
      have h2 := ih (u / 10) (by omega) (by omega)
      cases hd : Lib.decDigits (u / 10) with
      | nil => exact absurd hd (dec_ne _)
      | cons c r => rw [hd] at h2; simpa using h2
theorem mag_dec (u : Nat) (hu : u < 10000000000000000) (minus : Bool) (hm : minus = true → 1 ≤ u) :
    magF minus (Lib.decDigits u) = (if minus then -(u : Int) else u, ((Lib.decDigits u).length : Int) + (if minus then 1 else 0)) := by
  have hl := dec_len u 15 (by omega)
  have hd := dgs_all (dec_isDg u) (by omega)
  unfold magF
  rw [hd, spell_dec, if_neg]
  rintro (h | ⟨h1, h2⟩ | ⟨h1, h2⟩ | h)
  · exact dec_ne u h
  · by_cases h0 : 1 ≤ u
    · exact dec_head u h0 h2
    · have : u = 0 := by omega
      subst this
      rw [Lib.decDigits, dif_pos (by omega)] at h1
      simp at h1
  · have := hm h1; omega
  · omega
/-- Whole of Decimal -/
theorem whole_itoa (n : Int) (h0 : -10000000000000000 < n) (h1 : n < 10000000000000000) : wholeF (Lib.itoa n) = (n, true) := by
  by_cases hn : n < 0
  · have e : Lib.itoa n = 45 :: Lib.decDigits n.natAbs := by unfold Lib.itoa; rw [if_pos hn]
    have hm := mag_dec n.natAbs (by omega) true (by omega)
    have hp : 1 ≤ (Lib.decDigits n.natAbs).length := by
      cases h : Lib.decDigits n.natAbs with
      | nil => exact absurd h (dec_ne _)
      | cons c r => simp
    unfold wholeF numF
    rw [e, List.head?_cons, if_pos rfl, List.tail_cons, hm, List.length_cons]
    simp only [if_true]
    congr 1
    · omega
    · simp
  · have e : Lib.itoa n = Lib.decDigits n.toNat := by unfold Lib.itoa; rw [if_neg hn]
    have hm := mag_dec n.toNat (by omega) false (by simp)
    have hh : (Lib.decDigits n.toNat).head? ≠ some 45 := by
      cases h : Lib.decDigits n.toNat with
      | nil => simp
      | cons c r =>
        have := dec_digit n.toNat c (by rw [h]; simp)
        intro e; simp at e; subst e; simp at this
    have hp : 1 ≤ (Lib.decDigits n.toNat).length := by
      cases h : Lib.decDigits n.toNat with
      | nil => exact absurd h (dec_ne _)
      | cons c r => simp
    unfold wholeF numF
    rw [e, if_neg hh, hm]
    congr 1
    · simp; omega
    · simp; omega
end
section
open Go.RowKit
set_option linter.unusedVariables false
set_option maxRecDepth 20000
set_option linter.unusedSimpArgs false
set_option linter.unusedSectionVars false
set_option maxRecDepth 100000
attribute [local go_sem] Oper.semAt_some

theorem enc_dig : ∀ d : Fin 10, (Utf8.encode (48 + (d.val : Int))).data = #[UInt8.ofNat (48 + d.val)] := by decide +kernel
theorem enc_digit (d : Nat) (h : d < 10) : Utf8.encode (48 + (d : Int)) = ⟨#[UInt8.ofNat (48 + d)]⟩ := ByteArray.ext (enc_dig ⟨d, h⟩)
theorem str_app (a b : List UInt8) : ((⟨a.toArray⟩ : ByteArray) ++ ⟨b.toArray⟩) = ⟨(a ++ b).toArray⟩ := by
  apply ByteArray.ext
  simp
theorem dec_step (u : Nat) (h : ¬ u < 10) (r : List UInt8) : Lib.decDigits (u / 10) ++ UInt8.ofNat (48 + u % 10) :: r = Lib.decDigits u ++ r := by
  rw [Lib.decDigits.eq_def u, dif_neg h]; simp
/-- what is left of a number's digits -/
def DecRel (n k : Nat) (S : ByteArray) : Prop := Lib.decDigits k ++ S.data.toList = Lib.decDigits n
theorem DecRel.size {n k : Nat} {S : ByteArray} (h : DecRel n k S) (hn : n ≤ 9223372036854775807) : S.size ≤ 20 := by
  have := congrArg List.length h
  rw [List.length_append] at this
  have h2 := dec_len n 18 (by omega)
  have h3 : S.data.toList.length = S.size := by simp
  omega
theorem app_toList (a b : ByteArray) : (a ++ b).data.toList = a.data.toList ++ b.data.toList := by simp
/-- a number that is not negative -/
theorem rdec_nat (n : Nat) (hn : n ≤ 9223372036854775807) (w : World) :
    Calls Tryz.prog 64 #[.int .i64 n] w fun e w' => e = .returned (.string ⟨(Lib.decDigits n).toArray⟩) ∧ w = w' := by
  have c0 : ((n : Int) == -9223372036854775808) = false := by rw [beq_eq_false_iff_ne]; omega
  have c1 : ¬ (n : Int) < 0 := by omega
  go_enter Tryz.func64, Tryz.ntmps64
  go_wp2
  clear c0 c1
  go_loop [0, 3] (fun i v => ∃ (k : Nat) (S : ByteArray), k ≤ n ∧ i = .int .i64 k ∧ v = .string S ∧ DecRel n k S) (fun i _ => (intOf i).toNat)
  case atStart => exact ⟨n, ⟨#[]⟩, Nat.le_refl _, rfl, rfl, by simp [DecRel]⟩
  case round =>
    obtain ⟨k, S, hk, rfl, rfl, hr⟩ := hrel
    by_cases h : k < 10
    · have c2 : ¬ (10 : Int) ≤ k := by omega
      have d1 : IntKind.i64.wrap (48 + (k : Int)) = 48 + (k : Int) := IntWalk.i64_in _ ⟨by omega, by omega⟩
      have d2 : IntKind.i32.wrap (48 + (k : Int)) = 48 + (k : Int) := by simp [IntKind.wrap, IntKind.bits, IntKind.signed]; omega
      have HE := enc_digit k h
      obtain ⟨D, hD⟩ : ∃ D, (⟨#[UInt8.ofNat (48 + k)]⟩ : ByteArray) = D := ⟨_, rfl⟩
      rw [hD] at HE
      have HR : Hid (D ++ S = ⟨(Lib.decDigits n).toArray⟩) := Lib.hid (by
        apply ByteArray.ext
        apply Array.ext'
        rw [app_toList, ← hD, ← hr, Lib.decDigits, dif_pos h])
      have hz := hr.size hn
      have hd1 : D.size = 1 := by rw [← hD]; rfl
      have hlim : ¬ 9223372036854775807 < D.size + S.size := by omega
      clear hd1
      clear hr hD
      go_wp2
      go_ret
      exact ⟨by rw [HR.out]; rfl, rfl⟩
    · have c2 : (10 : Int) ≤ k := by omega
      obtain ⟨m, hm⟩ : ∃ m : Nat, k % 10 = m := ⟨_, rfl⟩
      obtain ⟨q, hq⟩ : ∃ q : Nat, k / 10 = q := ⟨_, rfl⟩
      have e1 : (k : Int) % 10 = m := by omega
      have e2 : (k : Int) / 10 = q := by omega
      have HE := enc_digit m (by omega)
      obtain ⟨D, hD⟩ : ∃ D, (⟨#[UInt8.ofNat (48 + m)]⟩ : ByteArray) = D := ⟨_, rfl⟩
      rw [hD] at HE
      have HR : Hid (DecRel n q (D ++ S)) := Lib.hid (by
        unfold DecRel at hr ⊢
        rw [app_toList, ← hD, ← hq, ← hr]
        have := dec_step k h S.data.toList
        rw [hm] at this
        exact this)
      have hz := hr.size hn
      have hd1 : D.size = 1 := by rw [← hD]; rfl
      have hlim : ¬ 9223372036854775807 < D.size + S.size := by omega
      clear hd1
      clear hr hD
      go_wp2
      go_round
      case rel => exact ⟨q, D ++ S, by omega, rfl, rfl, HR.out⟩
      case measure => simp [intOf]; omega
/-- Decimal of the reference -/
theorem rdec_any (n : Int) (h0 : -9223372036854775808 ≤ n) (h1 : n ≤ 9223372036854775807) (w : World) :
    Calls Tryz.prog 64 #[.int .i64 n] w fun e w' => e = .returned (.string ⟨(Lib.itoa n).toArray⟩) ∧ w = w' := by
  by_cases hm : n = -9223372036854775808
  · subst hm
    have HR : Hid ((⟨(Lib.itoa (-9223372036854775808)).toArray⟩ : ByteArray) = ⟨#[45,57,50,50,51,51,55,50,48,51,54,56,53,52,55,55,53,56,48,56]⟩) := Lib.hid (by
      have : Lib.itoa (-9223372036854775808) = [45,57,50,50,51,51,55,50,48,51,54,56,53,52,55,55,53,56,48,56] := by
        unfold Lib.itoa
        rw [if_pos (by decide), show (-9223372036854775808 : Int).natAbs = 9223372036854775808 by decide]
        rw [Lib.decDigits_eq, Lib.nDigits_unique 18 _ (by decide) (by decide)]
        decide +kernel
      rw [this])
    go_enter Tryz.func64, Tryz.ntmps64
    go_wp2
    go_ret
    exact ⟨by rw [HR.out]; rfl, rfl⟩
  · by_cases hn : n < 0
    · have c0 : (n == -9223372036854775808) = false := by rw [beq_eq_false_iff_ne]; exact hm
      have e1 : IntKind.i64.wrap (-n) = ((n.natAbs : Nat) : Int) := (IntWalk.i64_in _ ⟨by omega, by omega⟩).trans (by omega)
      have HD := rdec_nat n.natAbs (by omega) w
      obtain ⟨D, hD⟩ : ∃ D, (⟨(Lib.decDigits n.natAbs).toArray⟩ : ByteArray) = D := ⟨_, rfl⟩
      have HR : Hid ((⟨#[45]⟩ : ByteArray) ++ D = ⟨(Lib.itoa n).toArray⟩) := Lib.hid (by
        rw [← hD]
        have : Lib.itoa n = 45 :: Lib.decDigits n.natAbs := by unfold Lib.itoa; rw [if_pos hn]
        rw [this]
        apply ByteArray.ext
        simp)
      have hz : D.size ≤ 20 := by
        rw [← hD]
        have := dec_len n.natAbs 18 (by omega)
        show (Lib.decDigits n.natAbs).toArray.size ≤ 20
        simp; omega
      have hlim : ¬ 9223372036854775807 < 1 + D.size := by omega
      rw [hD] at HD
      clear hD
      obtain ⟨m, hm2⟩ : ∃ m : Nat, n.natAbs = m := ⟨_, rfl⟩
      rw [hm2] at e1 HD
      clear hm2
      go_enter Tryz.func64, Tryz.ntmps64
      go_wp2_with (go_at_call 64; refine HD.mono ?_; rintro e w1 ⟨rfl, rfl⟩)
      go_ret
      exact ⟨by rw [HR.out]; rfl, rfl⟩
    · have HD := rdec_nat n.toNat (by omega) w
      have e : Lib.itoa n = Lib.decDigits n.toNat := by unfold Lib.itoa; rw [if_neg hn]
      rw [show ((n.toNat : Nat) : Int) = n by omega] at HD
      rw [e]
      exact HD
end
end Go.Proofs.YtcbinafokhekmaaGreatDoor
