/- Areas: the iterator near; Find. -/
import Derived.Test.YtnileonlabpbpaaSpA
import Derived.Test.YtnileonlabpbpaaFits
import Derived.StillTailTactics
namespace Go.Proofs.Ytnileonlabpbpaa
open Go.RowKit
set_option linter.unusedVariables false
set_option maxRecDepth 20000
set_option maxRecDepth 20000
attribute [local go_sem] Oper.semAt_some

/-- which page is found near one for so many bytes -/
def FindR (l : List ByteArray) (near : Nat) (b : Int) (r : Int × Int) : Prop :=
  (∃ i, i < l.length ∧ holdsB (nthB l ((near + i) % l.length)) b = true ∧ (∀ j, j < i → holdsB (nthB l ((near + j) % l.length)) b = false) ∧ r = ((((near + i) % l.length : Nat) : Int), 0)) ∨
  ((∀ j, j < l.length → holdsB (nthB l ((near + j) % l.length)) b = false) ∧ r = (0, 13))
theorem findR_some (l : List ByteArray) (near : Nat) (b : Int) : ∃ r, FindR l near b r := by
  by_cases h : ∃ i, i < l.length ∧ holdsB (nthB l ((near + i) % l.length)) b = true
  · obtain ⟨i, ⟨h1, h2⟩, hmin⟩ := least_of (Q := fun i => i < l.length ∧ holdsB (nthB l ((near + i) % l.length)) b = true) h
    refine ⟨((((near + i) % l.length : Nat) : Int), 0), .inl ⟨i, h1, h2, fun j hj => ?_, rfl⟩⟩
    cases hb : holdsB (nthB l ((near + j) % l.length)) b with
    | false => rfl
    | true => exact absurd ⟨by omega, hb⟩ (hmin j hj)
  · refine ⟨(0, 13), .inr ⟨fun j hj => ?_, rfl⟩⟩
    cases hb : holdsB (nthB l ((near + j) % l.length)) b with
    | false => rfl
    | true => exact absurd ⟨j, hj, hb⟩ h

theorem near_any (A : Nat) (near : Int) (w : World) :
    Calls Try.prog 41 #[.pointer (some ⟨A, 0, none⟩), .int .i64 near] w fun e w' => e = .returned (.func (.func 57) #[] #[.pointer (some ⟨w.heap.size, 0, none⟩), .pointer (some ⟨w.heap.size + 1, 0, none⟩)]) ∧
      Boxed w' w.heap.size 23 (.pointer (some ⟨A, 0, none⟩)) ∧ Boxed w' (w.heap.size + 1) 3 (.int .i64 near) ∧ Ext w w' ∧ w'.heap.size = w.heap.size + 2 := by
  go_enter Try.func41, Try.ntmps41
  go_wp2
  go_ret
  refine ⟨rfl, (Boxed.new _ _ _).alloc _, ?_, ((Ext.refl w).alloc _).alloc _, by simp [World.size_alloc]⟩
  have := Boxed.new (w.alloc (.cells #[.pointer (some ⟨A, 0, none⟩)] 23)) 3 (.int .i64 near)
  rw [World.size_alloc] at this
  exact this

set_option maxHeartbeats 4000000 in
theorem near_seq (A ca cf near n cap : Nat) (P : Option Addr) (hn : n ≤ 200) (hne : near < n) :
    SeqP Try.prog 57 #[.pointer (some ⟨ca, 0, none⟩), .pointer (some ⟨cf, 0, none⟩)] (fun i => #[.int .i64 (((near + i) % n : Nat) : Int)]) n
      (fun W => W.cell? ⟨ca, 0, none⟩ = some (.pointer (some ⟨A, 0, none⟩)) ∧ W.cell? ⟨cf, 0, none⟩ = some (.int .i64 near) ∧ W.cell? ⟨A, 201, none⟩ = some (.slice P n cap)) := by
  intro l J Jx Jp W hJ hJx hK hY h0
  obtain ⟨h1, h2, h3⟩ := hK 0 W h0
  refine callsIn_of_wp Try.func57 rfl trivial ?_ rfl
  simp only [Try.ntmps57, List.size_toArray, List.length_cons, List.length_nil, Nat.reduceAdd, Nat.reduceSub, Array.replicate_succ, Array.replicate_zero, List.push_toArray, List.append_toArray, List.nil_append, List.cons_append]
  gi_wp2
  gi_loopw [10] (fun i wr => ∃ k : Nat, k ≤ n ∧ i = .int .i64 k ∧ J k wr) (fun i _ => n - (intOf i).toNat)
  case atStart => exact ⟨0, by omega, rfl, h0⟩
  case round =>
    obtain ⟨k, hk, rfl, hj⟩ := hrel
    by_cases hlt : k < n
    · obtain ⟨g1, g2, g3⟩ := hK _ _ hj
      have hjd := hJ _ _ _ hj (Ext.drew (Ext.refl wr))
      obtain ⟨fn, tmps, assign, body, hy, hR⟩ := hY k wr.drew hjd hlt
      have e1 : (((near + k) % n : Nat) : Int) = ((near : Int) + k) % (n : Int) := by simp
      rw [e1] at hy
      have k1 : IntKind.i64.wrap ((near : Int) + k) = near + k := IntWalk.i64_in _ ⟨by omega, by omega⟩
      have k2 : ((near : Int) + k).tmod (n : Int) = (near + k) % n := Int.tmod_eq_emod_of_nonneg (by omega)
      have k3 : ((n : Int) == 0) = false := by simp; omega
      have k4 : ¬ (n : Int) = 0 := by omega
      have k5 : IntKind.i64.wrap (((near : Int) + k) % (n : Int)) = (near + k) % n := IntWalk.i64_in _ ⟨by have := Int.emod_nonneg ((near : Int) + k) k4; omega, by have := Int.emod_lt_of_pos ((near : Int) + k) (show (0 : Int) < n by omega); omega⟩
      clear e1
      gi_wp2
      gi_region_with (first
        | (refine ⟨rfl, ?_⟩; refine hR.mono ?_; intro e W3 h3; rcases yield_cases h3 with ⟨ch, rfl, hp3⟩ | ⟨t, rfl, h4⟩; exact ⟨rfl, .inr ⟨k, ch, hlt, rfl, hp3⟩⟩; skip))
      all_goals (
        clear h3
        rcases h4 with ⟨rfl, hj3⟩ | ⟨rfl, hx3⟩
        · gi_wp2
          go_roundw
          case rel => exact ⟨k + 1, by omega, by go_num, hj3⟩
          case measure => simp [intOf]; omega
        · gi_wp2
          refine bodyPost_ret (results_none rfl _ _ _) rfl ?_
          exact .inl ⟨⟨_, rfl⟩, .inr ⟨k, hlt, hx3⟩⟩)
    · obtain rfl : k = n := by omega
      gi_wp2
      go_end0
      exact .inl ⟨⟨_, rfl⟩, .inl hj⟩

/-- A region of a round: reads, then one call: the plain walk serves. -/
theorem wpIn_round_still_tail {P : Program} {r id : Nat} {Q : Exit → Act → World → Prop} {a : Act} {w : World} {l : List Oper} (n : Nat) (hnd : l.toArray.all noDefer = true) (hQ : ¬ LetsOut Q) (hm : P.follows .mixedOrders = true) (hB : Region.lexTailB .any l.toArray n = true)
    (h : wpStill P l.toArray w.drew (fun a' => wpList P l.toArray Q (l.drop n) a' w.drew) (l.take n) a) : (Code.region id l.toArray true).wpIn (Fence.wide.inRound r) 0 P Q a w := by
  simp only [Region.lexTailB, Bool.and_eq_true, decide_eq_true_eq] at hB
  obtain ⟨⟨⟨⟨hsel, hn⟩, hs⟩, hc⟩, hlex⟩ := hB
  have hn' : n < l.length := by simpa using hn
  have htl : (l.take n).length = n := by simp; omega
  have hdl : (l.drop n).length = l.toArray.size - n := by simp
  have inv0 : HeadInv .any l.toArray n (Array.replicate l.toArray.size false) :=
    ⟨by simp, fun j oj _ hl => (by rw [getD_replicate_false] at hl; cases hl), fun t _ ht => getD_in (by simpa using ht) (getD_replicate_false _ _)⟩
  have H := wpAnyL_lex (md := .any) (g := l.toArray.size - n) hsel hs hc hn (l.take n) 0 _ a (fun j hj => by
    have hj' : j < n := by rw [htl] at hj; exact hj
    simp [hj']) (by simpa using htl) inv0 (by rw [htl]; exact hlex) h
  have := wpAny_of_head (Q' := Q) (g := l.toArray.size - n) (fun listed a' hL => by
    have := wpAny_of_seq (md := .any) (Q' := Q) (l.drop n) n listed a' w.drew (fun j => by simp [List.getElem?_drop]) (by rw [hdl]; exact hL.1) hL.2
    rwa [hdl] at this) _ _ _ H
  rw [htl, show n + (l.toArray.size - n) = l.toArray.size by omega] at this
  exact wpIn_region_any hm (wpAnyIn_round_of_plain hnd hQ _ _ _ _ this)

/-- an area in memory: its block, the block of its pages, its size and its pages -/
structure Sp (w : World) (A g : Nat) (size : Nat) (l : List ByteArray) (lv : List UInt8) (cap : Nat) : Prop where
  ar : ArB w A lv size (.slice (some ⟨g, 0, none⟩) l.length cap)
  own : w.ownsRow 0 9 1 (.slice (some ⟨g, 0, none⟩) l.length cap) l.length (l.map .string)
  ne : A ≠ g
  lev : ∀ i, i < l.length → nthL lv i = UInt8.ofNat (levP size (nthB l i))
  good : ∀ i, i < l.length → ValidR (nthB l i) ∧ (nthB l i).size = size
  pos : 1 ≤ l.length
  le : l.length ≤ 200
  sz : sizeB (size : Int) = true
theorem slS_of_row {w : World} {base g cap : Nat} {l : List ByteArray} (h : w.ownsRow base 9 1 (.slice (some ⟨g, 0, none⟩) l.length cap) l.length (l.map .string)) : SlS w (some ⟨g, 0, none⟩) l :=
  ⟨fun i hi => ⟨g, 0, rfl, by
    have := h.cellAt i (by omega)
    rw [Nat.zero_add, this]
    simp [nthB, List.getD_eq_getElem?_getD, List.getElem?_eq_getElem hi]⟩⟩
theorem Sp.sls {w : World} {A g size cap : Nat} {l : List ByteArray} {lv : List UInt8} (h : Sp w A g size l lv cap) : SlS w (some ⟨g, 0, none⟩) l := slS_of_row h.own
theorem Sp.ext {w w' : World} {A g size cap : Nat} {l : List ByteArray} {lv : List UInt8} (h : Sp w A g size l lv cap) (hx : Ext w w') : Sp w' A g size l lv cap :=
  ⟨h.ar.ext hx, ownsRow_ext h.own hx, h.ne, h.lev, h.good, h.pos, h.le, h.sz⟩
theorem Sp.sizes {w : World} {A g size cap : Nat} {l : List ByteArray} {lv : List UInt8} (h : Sp w A g size l lv cap) : 32 ≤ size ∧ size ≤ 4096 := by have := h.sz; simp [sizeB] at this; omega
theorem Sp.level {w : World} {A g size cap : Nat} {l : List ByteArray} {lv : List UInt8} (h : Sp w A g size l lv cap) (i : Nat) (hi : i < l.length) : ((nthL lv i).toNat : Int) = roomP (nthB l i) * 8 / (size : Int) := by
  obtain ⟨hv, hz⟩ := h.good i hi
  obtain ⟨z1, z2⟩ := h.sizes
  rw [h.lev i hi]
  have h1 := levP_le hv
  rw [hz] at h1
  simp only [UInt8.toNat_ofNat']
  rw [Nat.mod_eq_of_lt (by omega)]
  unfold levP
  have h0 : 0 ≤ roomP (nthB l i) * 8 / (size : Int) := Int.ediv_nonneg (by have := (roomP_le hv).1; omega) (by omega)
  omega
/-- a page that is not worth looking at does not hold the bytes -/
theorem holds_may {p : ByteArray} (hv : ValidR p) (b : Int) (h : holdsB p b = true) : b * 8 / (p.size : Int) ≤ roomP p * 8 / (p.size : Int) := by
  obtain ⟨z1, z2⟩ := sizes_of hv
  unfold holdsB topLine at h
  simp only [Bool.and_eq_true, decide_eq_true_eq] at h
  refine Int.ediv_le_ediv (by omega) ?_
  unfold roomP roomF
  obtain ⟨_, h2⟩ := h
  split at h2 <;> omega

end Go.Proofs.Ytnileonlabpbpaa
