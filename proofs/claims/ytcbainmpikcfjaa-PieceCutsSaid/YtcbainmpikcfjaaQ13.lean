/- PcG; PcH (merged by group.py) -/
import Derived.Test.YtcbainmpikcfjaaQ12
import Derived.Test.YtcbainmpikcfjaaQ10
import Derived.Sort.LoopGhostIn
namespace Go.Proofs.Ytcbainmpikcfjaa
section
open Go.RowKit Go.Maps
set_option linter.unusedVariables false
set_option linter.unusedSimpArgs false
set_option linter.unusedSectionVars false
set_option maxRecDepth 20000

/-- a heap in memory: its block, its area, its map of anchors -/
structure Hp (w : World) (h A g M size most cap : Nat) (l : List ByteArray) (lv : List UInt8) (mp : List (Int × Adr)) : Prop where
  box : BoxN w h 51 #[.pointer (some ⟨A, 0, none⟩), .int .i64 most, .map (some M)]
  sp : Sp w A g size l lv cap
  map : MapI w M mp
  hA : h ≠ A
  hg : h ≠ g
  hM : h ≠ M
  MA : M ≠ A
  Mg : M ≠ g
  m1 : 1 ≤ most
  m2 : most ≤ 1000
section
variable {w w' : World} {h A g M size most cap : Nat} {l : List ByteArray} {lv : List UInt8} {mp : List (Int × Adr)}
theorem Hp.ext (H : Hp w h A g M size most cap l lv mp) (hx : Ext w w') : Hp w' h A g M size most cap l lv mp :=
  ⟨H.box.ext hx, H.sp.ext hx, H.map.ext hx, H.hA, H.hg, H.hM, H.MA, H.Mg, H.m1, H.m2⟩
theorem Hp.upd {F : Nat → Prop} (H : Hp w h A g M size most cap l lv mp) (hu : UpdF F w w') (hf : ¬ F h ∧ ¬ F A ∧ ¬ F g ∧ ¬ F M) : Hp w' h A g M size most cap l lv mp :=
  ⟨H.box.upd hu hf.1, H.sp.same (hu.block A H.sp.ar.lt hf.2.1) (hu.block g H.sp.gl hf.2.2.1), H.map.updF hu hf.2.2.2, H.hA, H.hg, H.hM, H.MA, H.Mg, H.m1, H.m2⟩
theorem Hp.lts (H : Hp w h A g M size most cap l lv mp) : h < w.heap.size ∧ A < w.heap.size ∧ g < w.heap.size ∧ M < w.heap.size := ⟨H.box.lt, H.sp.ar.lt, H.sp.gl, H.map.lt⟩
end
/-- what the area's Get tells of a place -/
def GetA (size : Nat) (l : List ByteArray) (a : Adr) (r : ByteArray × Int) : Prop :=
  ∀ (A g cap : Nat) (lv : List UInt8) (W : World), Sp W A g size l lv cap → Calls Try.prog 32 #[.pointer (some ⟨A, 0, none⟩), adV a] W fun e w' => e = two2 r ∧ Ext W w'
/-- a record in the pages: its fragments lie at these places -/
structure RecAt (size : Nat) (l : List ByteArray) (k : Int) (all : Nat) (parts : List ByteArray) (ads : Nat → Adr) : Prop where
  last : ads parts.length = (0, 0)
  rng : ∀ i, i < parts.length → (0 ≤ (ads i).1 ∧ (ads i).1 ≤ 1000) ∧ 1 ≤ (ads i).2 ∧ (ads i).2 ≤ 255
  get : ∀ i, i < parts.length → GetA size l (ads i) (frB k all i (ads (i + 1)) (parts.getD i ⟨#[]⟩), 0)
  key : 1 ≤ k ∧ k ≤ 1000000
  all_ : all ≤ 4000
  len : 1 ≤ parts.length ∧ parts.length ≤ 4001
  psz : ∀ i, i < parts.length → (parts.getD i ⟨#[]⟩).size ≤ 1000
theorem RecAt.rng' {size : Nat} {l : List ByteArray} {k : Int} {all : Nat} {parts : List ByteArray} {ads : Nat → Adr} (h : RecAt size l k all parts ads) {i : Nat} (hi : i ≤ parts.length) : (0 ≤ (ads i).1 ∧ (ads i).1 ≤ 1000) ∧ 0 ≤ (ads i).2 ∧ (ads i).2 ≤ 255 := by
  by_cases hl : i < parts.length
  · have := h.rng i hl; omega
  · obtain rfl : i = parts.length := by omega
    rw [h.last]
    decide
/-- a fragment as it is read -/
def frW (k all i : Int) (nx : Adr) (part : ByteArray) : Value := .agg #[.bool (decide (i = 0)), .int .i64 k, .int .i64 (if i = 0 then all else i), .int .i64 nx.1, .int .i64 nx.2, .string part]
theorem fr_first (k all i : Int) (nx : Adr) (part : ByteArray) : (frB k all i nx part).data.toList[0]? = some (if i = 0 then 65 else 67) := by
  rw [frB_list]
  unfold frH
  split <;> rfl
theorem fr_rest (k all i : Int) (nx : Adr) (part : ByteArray) : (frB k all i nx part).extract 10 (frB k all i nx part).size = part := by
  apply ByteArray.ext
  apply Array.ext'
  simp only [ByteArray.data_extract, Array.toList_extract, List.extract_eq_take_drop]
  rw [frB_list, frB_size, List.drop_append_of_le_length (by rw [frH_len]; exact Nat.le_refl _), show (frH k all i nx).drop 10 = [] from List.drop_eq_nil_of_le (by rw [frH_len]; exact Nat.le_refl _), List.nil_append]
  apply List.take_of_length_le
  rw [show part.data.toList.length = part.size from Lib.size_eq _ |>.symm ▸ rfl]
  omega
theorem numL4 (a b c d : UInt8) : numL [a, b, c, d] = ((a.toNat * 256 + b.toNat) * 256 + c.toNat) * 256 + d.toNat := by simp [numL]
theorem numL2 (a b : UInt8) : numL [a, b] = a.toNat * 256 + b.toNat := by simp [numL]
theorem numL1 (a : UInt8) : numL [a] = a.toNat := by simp [numL]
theorem fr_read (k all i : Int) (p q : Int) (part : ByteArray) (hk : 0 ≤ k ∧ k ≤ 1000000) (ha : 0 ≤ all ∧ all ≤ 4000) (hi : 0 ≤ i ∧ i ≤ 4100) (hp : 0 ≤ p ∧ p ≤ 1000) (hq : 0 ≤ q ∧ q ≤ 255) :
    fragV (if i = 0 then 65 else 67) (frB k all i (p, q) part) = frW k all i (p, q) part := by
  unfold fragV frW
  rw [fr_rest, frB_list]
  have e1 := by8_nat (k / 16777216)
  have e2 := by8_nat (k / 65536)
  have e3 := by8_nat (k / 256)
  have e4 := by8_nat k
  have e7 := by8_nat (p / 256)
  have e8 := by8_nat p
  have e9 := by8_nat q
  have hK : ∀ (kd : UInt8) (n : Int), 0 ≤ n → n ≤ 4100 →
      ((numL (((headL kd k n (p, q) ++ part.data.toList).drop 1).take 4) : Nat) : Int) = k ∧ ((numL (((headL kd k n (p, q) ++ part.data.toList).drop 5).take 2) : Nat) : Int) = n ∧
      ((numL (((headL kd k n (p, q) ++ part.data.toList).drop 7).take 2) : Nat) : Int) = p ∧ ((numL (((headL kd k n (p, q) ++ part.data.toList).drop 9).take 1) : Nat) : Int) = q := by
    intro kd n h0 h1
    have e5 := by8_nat (n / 256)
    have e6 := by8_nat n
    unfold headL
    simp only [List.cons_append, List.nil_append, List.drop_succ_cons, List.drop_zero, List.take_succ_cons, List.take_zero, numL4, numL2, numL1]
    refine ⟨?_, ?_, ?_, ?_⟩ <;> push_cast <;> omega
  by_cases h0 : i = 0
  · have := hK 65 all ha.1 (by omega)
    rw [if_pos h0, if_pos h0, show frH k all i (p, q) = headL 65 k all (p, q) from if_pos h0, this.1, this.2.1, this.2.2.1, this.2.2.2]
    simp [h0]
  · have := hK 67 i hi.1 hi.2
    rw [if_neg h0, if_neg h0, show frH k all i (p, q) = headL 67 k i (p, q) from if_neg h0, this.1, this.2.1, this.2.2.1, this.2.2.2]
    simp [h0]
/-- what the iterator reads -/
structure FrK (hb kb h A g M size most cap : Nat) (l : List ByteArray) (lv : List UInt8) (mp : List (Int × Adr)) (k : Int) (W : World) : Prop where
  b1 : Boxed W hb 28 (.pointer (some ⟨h, 0, none⟩))
  b2 : Boxed W kb 3 (.int .i64 k)
  hp : Hp W h A g M size most cap l lv mp
theorem yieldw_cases {e : Ending} {A B : Prop} {C : List PanicEntry → Prop} (h : (e = .returned (.bool true) ∧ A) ∨ (e = .returned (.bool false) ∧ B) ∨ ∃ ch, e = .panicked ch ∧ C ch) :
    (∃ ch, e = .panicked ch ∧ C ch) ∨ ∃ t, e = .returned (.bool t) ∧ (t = true ∧ A ∨ t = false ∧ B) := by
  rcases h with ⟨h, a⟩ | ⟨h, b⟩ | h
  · exact .inr ⟨true, h, .inl ⟨rfl, a⟩⟩
  · exact .inr ⟨false, h, .inr ⟨rfl, b⟩⟩
  · exact .inl h
def FrR (k : Int) (all : Nat) (parts : List ByteArray) (ads : Nat → Adr) (i : Nat) (enc : Array Value) (i' : Nat) : Prop :=
  i < parts.length ∧ i' = i + 1 ∧ enc = #[adV (ads i), frW k all i (ads (i + 1)) (parts.getD i ⟨#[]⟩)]
set_option maxHeartbeats 8000000 in
theorem frag_seq (hb kb h A g M size most cap : Nat) (l : List ByteArray) (lv : List UInt8) (mp : List (Int × Adr)) (k : Int) (all : Nat) (parts : List ByteArray) (ads : Nat → Adr) (hr : RecAt size l k all parts ads) (hm : hasI mp k = true) (ha : atI mp k = ads 0) :
    SeqW Try.prog 31 #[.pointer (some ⟨hb, 0, none⟩), .pointer (some ⟨kb, 0, none⟩)] (FrR k all parts ads) 0 (fun i => i = parts.length) (FrK hb kb h A g M size most cap l lv mp k) := by
  intro ll J Jx Jp W hJe hJn hJu hJx hK hY h0
  obtain ⟨k1, k2, k3⟩ := hK _ _ _ h0
  have hok : OkI k := by have := hr.key; exact ⟨by omega, by omega⟩
  have hlk := fun (V : World) (hV : MapI V M mp) => hV.look_ok (t := 47) Try.underlying47 hok
  rw [hm, ha] at hlk
  simp only [adV] at hlk
  have hlt0 : 0 < parts.length := hr.len.1
  have hnz : ∀ i, i < parts.length → (ads i).2 ≠ 0 := fun i hi => by have := hr.rng i hi; omega
  refine callsIn_of_wp Try.func31 rfl trivial ?_ rfl
  simp only [Try.ntmps31, List.size_toArray, List.length_cons, List.length_nil, Nat.reduceAdd, Nat.reduceSub, Array.replicate_succ, Array.replicate_zero, List.push_toArray, List.append_toArray, List.nil_append, List.cons_append]
  gi_wp2
  refine (wpIn_wide (n := 0)).2 ?_
  refine wp_region_noPanic ?_
  have hC : ∀ V, Ext W V → V.cell? ⟨hb, 0, none⟩ = some (.pointer (some ⟨h, 0, none⟩)) ∧ V.cell? ⟨kb, 0, none⟩ = some (.int .i64 k) ∧ V.cell? ⟨h, 2, none⟩ = some (.map (some M)) ∧ (Instr.lookup 47 (.map (some M)) (.int .i64 k) true).run Try.prog V = .ok (.tuple #[.agg #[.int .i64 (ads 0).1, .int .i64 (ads 0).2], .bool true]) V := fun V hx =>
    ⟨hx.cell k1.cell, hx.cell k2.cell, hx.cell (k3.box.cell (i := 2) rfl), hlk V (k3.map.ext hx)⟩
  have hCd := hC W.drew (Ext.refl W).drew
  refine wp_region_F (fun V => V.cell? ⟨hb, 0, none⟩ = some (.pointer (some ⟨h, 0, none⟩)) ∧ V.cell? ⟨kb, 0, none⟩ = some (.int .i64 k) ∧ V.cell? ⟨h, 2, none⟩ = some (.map (some M)) ∧ (Instr.lookup 47 (.map (some M)) (.int .i64 k) true).run Try.prog V = .ok (.tuple #[.agg #[.int .i64 (ads 0).1, .int .i64 (ads 0).2], .bool true]) V) 12 (by kernel_rfl) ?_
  refine wpAnyF_take (i := 0) (v := .pointer (some ⟨h, 0, none⟩)) (fuel := 12) rfl (by kernel_rfl) (by kernel_rfl) (by kernel_rfl) (by kernel_rfl) (by kernel_rfl) rfl (fun _ _ _ h => h) (.inl ⟨rfl, fun W hS => by obtain ⟨s1, s2, s3, s4⟩ := hS; go_simp⟩) hCd ?_
  refine wpAnyF_take (i := 1) (v := .pointer (some ⟨h, 0, none⟩)) (fuel := 11) rfl (by kernel_rfl) (by kernel_rfl) (by kernel_rfl) (by kernel_rfl) (by kernel_rfl) rfl (fun _ _ _ h => h) (.inl ⟨rfl, fun W hS => by obtain ⟨s1, s2, s3, s4⟩ := hS; go_simp⟩) hCd ?_
  refine wpAnyF_take (i := 2) (v := .pointer (some ⟨h, 0, none⟩)) (fuel := 10) rfl (by kernel_rfl) (by kernel_rfl) (by kernel_rfl) (by kernel_rfl) (by kernel_rfl) rfl (fun _ _ _ h => h) (.inl ⟨rfl, fun W hS => by obtain ⟨s1, s2, s3, s4⟩ := hS; go_simp⟩) hCd ?_
  refine wpAnyF_take (i := 3) (v := .pointer (some ⟨h, 2, none⟩)) (fuel := 9) rfl (by kernel_rfl) (by kernel_rfl) (by kernel_rfl) (by kernel_rfl) (by kernel_rfl) rfl (fun _ _ _ h => h) (.inl ⟨rfl, fun W hS => by obtain ⟨s1, s2, s3, s4⟩ := hS; go_simp⟩) hCd ?_
  refine wpAnyF_take (i := 4) (v := .map (some M)) (fuel := 8) rfl (by kernel_rfl) (by kernel_rfl) (by kernel_rfl) (by kernel_rfl) (by kernel_rfl) rfl (fun _ _ _ h => h) (.inl ⟨rfl, fun W hS => by obtain ⟨s1, s2, s3, s4⟩ := hS; go_simp⟩) hCd ?_
  refine wpAnyF_take (i := 5) (v := .int .i64 k) (fuel := 7) rfl (by kernel_rfl) (by kernel_rfl) (by kernel_rfl) (by kernel_rfl) (by kernel_rfl) rfl (fun _ _ _ h => h) (.inl ⟨rfl, fun W hS => by obtain ⟨s1, s2, s3, s4⟩ := hS; go_simp⟩) hCd ?_
  refine wpAnyF_take (i := 6) (v := .tuple #[.agg #[.int .i64 (ads 0).1, .int .i64 (ads 0).2], .bool true]) (fuel := 6) rfl (by kernel_rfl) (by kernel_rfl) (by kernel_rfl) (by kernel_rfl) (by kernel_rfl) rfl (fun _ _ _ h => h) (.inl ⟨rfl, fun W hS => by obtain ⟨s1, s2, s3, s4⟩ := hS; go_simp⟩) hCd ?_
  refine wpAnyF_take (i := 7) (v := .tuple #[.agg #[.int .i64 (ads 0).1, .int .i64 (ads 0).2], .bool true]) (fuel := 5) rfl (by kernel_rfl) (by kernel_rfl) (by kernel_rfl) (by kernel_rfl) (by kernel_rfl) rfl (fun _ _ _ h => h) (.inl ⟨rfl, fun W hS => by obtain ⟨s1, s2, s3, s4⟩ := hS; go_simp⟩) hCd ?_
  refine wpAnyF_take (i := 8) (v := .agg #[.int .i64 (ads 0).1, .int .i64 (ads 0).2]) (fuel := 4) rfl (by kernel_rfl) (by kernel_rfl) (by kernel_rfl) (by kernel_rfl) (by kernel_rfl) rfl (fun _ _ _ h => h) (.inl ⟨rfl, fun W hS => by obtain ⟨s1, s2, s3, s4⟩ := hS; go_simp⟩) hCd ?_
  refine wpAnyF_take (i := 9) (v := .bool true) (fuel := 3) rfl (by kernel_rfl) (by kernel_rfl) (by kernel_rfl) (by kernel_rfl) (by kernel_rfl) rfl (fun _ _ _ h => h) (.inl ⟨rfl, fun W hS => by obtain ⟨s1, s2, s3, s4⟩ := hS; go_simp⟩) hCd ?_
  refine wpAnyF_one (i := 10) (fuel := 2) rfl (by kernel_rfl) rfl fun K' hK' => ?_
  go_simp
  refine hK' _ _ (fun _ => hC _ ((Ext.refl W).drew.alloc _)) ?_
  clear hK' K'
  refine wpAnyF_one (i := 11) (fuel := 1) rfl (by kernel_rfl) rfl fun K' hK' => ?_
  go_simp
  have hF : BoxN (W.alloc (.cells #[.int .i64 (ads 0).1, .int .i64 (ads 0).2] 38)).drew W.heap.size 38 #[.int .i64 (ads 0).1, .int .i64 (ads 0).2] := BoxN.new W _ _
  have hj2 : J (fun g => g = W.heap.size) 0 (W.alloc (.cells #[.int .i64 (ads 0).1, .int .i64 (ads 0).2] 38)).drew := hJe _ _ _ _ (hJn _ _ _ _ h0 (fun g hg => .inr (by omega))) (((Ext.refl W).alloc _).drew)
  obtain ⟨z1, z2, z3⟩ := hK _ _ _ hj2
  generalize (W.alloc (.cells #[.int .i64 (ads 0).1, .int .i64 (ads 0).2] 38)).drew = V2 at *
  refine hK' _ _ (fun _ => ⟨z1.cell, z2.cell, z3.box.cell (i := 2) rfl, hlk _ z3.map⟩) ?_
  clear hK' K'
  refine wpAnyF_one (i := 12) (fuel := 0) rfl (by kernel_rfl) rfl fun K' hK' => ?_
  go_simp
  refine hK' _ _ (fun h => by simp at h) ?_
  clear hK' K'
  refine wpAnyF_done (by kernel_rfl) ?_ 0
  refine NoPanic.normal ?_
  clear z1 z2 z3 hC hCd hlk k1 k2 k3
  gi_wp2
  gi_loopg [4] parts.length (fun gk pv wr => ∃ (i pb : Nat) (S : Nat → Prop), gk + i = parts.length ∧ pv = .pointer (some ⟨pb, 0, none⟩) ∧ BoxN wr pb 38 #[.int .i64 (ads i).1, .int .i64 (ads i).2] ∧ S pb ∧ (∀ g, S g → g < wr.heap.size) ∧ J S i wr)
  case atStart => exact ⟨0, W.heap.size, fun g => g = W.heap.size, by omega, rfl, hF, rfl, fun g hg => (by rw [show g = _ from hg]; exact hF.lt), hj2⟩
  case round =>
    obtain ⟨i, pb, S, hk, rfl, hbx, hS, hSl, hj⟩ := hrel
    obtain ⟨k1, k2, k3⟩ := hK _ _ _ hj
    have p0 := hbx.cell (i := 0) rfl
    have p1 := hbx.cell (i := 1) rfl
    by_cases hlt : i < parts.length
    · obtain ⟨gp, rfl⟩ : ∃ gp, gk = gp + 1 := ⟨gk - 1, by omega⟩
      have HGK := Lib.hid hk
      have hnx := hr.rng' (i := i + 1) (by omega)
      have hG := fun V hV => hr.get i hlt A g cap lv V hV
      have hpz := hr.psz i hlt
      have hkey := hr.key
      have hall := hr.all_
      have hlen := hr.len
      have hRd := fun V => read_any (if (i : Int) = 0 then 65 else 67) (frB k all i (ads (i + 1)) (parts.getD i ⟨#[]⟩)) V (fr_first _ _ _ _ _) (by split; exact .inl rfl; exact .inr rfl) (by rw [frB_size]; omega) (by rw [frB_size]; omega)
      have hY1 := fun S' V hV hSV => hY S' i #[adV (ads i), frW k all i (ads (i + 1)) (parts.getD i ⟨#[]⟩)] (i + 1) V hV ⟨hlt, rfl, rfl⟩ hSV
      obtain ⟨p, hp⟩ : ∃ p, (ads (i + 1)).1 = p := ⟨_, rfl⟩
      obtain ⟨q, hq⟩ : ∃ q, (ads (i + 1)).2 = q := ⟨_, rfl⟩
      have hpq : ads (i + 1) = (p, q) := by rw [← hp, ← hq]
      rw [hpq] at hRd hG hY1
      rw [fr_read k all i p q _ (by omega) (by omega) (by omega) (by omega) (by omega)] at hRd
      have hy0 := hnz i hlt
      simp only [adV, frW, two2] at hRd hG hY1
      have HPQ := Lib.hid (And.intro hp hq)
      have HLT := Lib.hid hlt
      clear hnx hp hq hpz hpq hall hlen hk hlt
      generalize frB k all i (p, q) (parts.getD i ⟨#[]⟩) = FB at *
      generalize parts.getD i ⟨#[]⟩ = part at *
      generalize decide ((i : Int) = 0) = bb at *
      generalize (if (i : Int) = 0 then (all : Int) else i) = nn at *
      generalize (ads i).1 = x at *
      generalize (ads i).2 = y at *
      gi_wp2
      have hC : ∀ V, Ext wr V → V.cell? ⟨hb, 0, none⟩ = some (.pointer (some ⟨h, 0, none⟩)) ∧ V.cell? ⟨h, 0, none⟩ = some (.pointer (some ⟨A, 0, none⟩)) ∧ V.cell? ⟨pb, 0, none⟩ = some (.int .i64 x) ∧ V.cell? ⟨pb, 1, none⟩ = some (.int .i64 y) := fun V hx =>
        ⟨hx.cell k1.cell, hx.cell (k3.box.cell (i := 0) rfl), hx.cell p0, hx.cell p1⟩
      have hCd := hC wr.drew (Ext.refl wr).drew
      refine (wpIn_wide (n := 0)).2 ?_
      refine wp_region_noPanic ?_
      refine wp_region_F (fun V => V.cell? ⟨hb, 0, none⟩ = some (.pointer (some ⟨h, 0, none⟩)) ∧ V.cell? ⟨h, 0, none⟩ = some (.pointer (some ⟨A, 0, none⟩)) ∧ V.cell? ⟨pb, 0, none⟩ = some (.int .i64 x) ∧ V.cell? ⟨pb, 1, none⟩ = some (.int .i64 y)) 11 (by kernel_rfl) ?_
      refine wpAnyF_take (i := 0) (v := .pointer (some ⟨h, 0, none⟩)) (fuel := 11) rfl (by kernel_rfl) (by kernel_rfl) (by kernel_rfl) (by kernel_rfl) (by kernel_rfl) rfl (fun _ _ _ h => h) (.inl ⟨rfl, fun W hS => by obtain ⟨s1, s2, s3, s4⟩ := hS; go_simp⟩) hCd ?_
      refine wpAnyF_take (i := 1) (v := .pointer (some ⟨h, 0, none⟩)) (fuel := 10) rfl (by kernel_rfl) (by kernel_rfl) (by kernel_rfl) (by kernel_rfl) (by kernel_rfl) rfl (fun _ _ _ h => h) (.inl ⟨rfl, fun W hS => by obtain ⟨s1, s2, s3, s4⟩ := hS; go_simp⟩) hCd ?_
      refine wpAnyF_take (i := 2) (v := .pointer (some ⟨h, 0, none⟩)) (fuel := 9) rfl (by kernel_rfl) (by kernel_rfl) (by kernel_rfl) (by kernel_rfl) (by kernel_rfl) rfl (fun _ _ _ h => h) (.inl ⟨rfl, fun W hS => by obtain ⟨s1, s2, s3, s4⟩ := hS; go_simp⟩) hCd ?_
      refine wpAnyF_take (i := 3) (v := .pointer (some ⟨h, 0, none⟩)) (fuel := 8) rfl (by kernel_rfl) (by kernel_rfl) (by kernel_rfl) (by kernel_rfl) (by kernel_rfl) rfl (fun _ _ _ h => h) (.inl ⟨rfl, fun W hS => by obtain ⟨s1, s2, s3, s4⟩ := hS; go_simp⟩) hCd ?_
      refine wpAnyF_take (i := 4) (v := .pointer (some ⟨A, 0, none⟩)) (fuel := 7) rfl (by kernel_rfl) (by kernel_rfl) (by kernel_rfl) (by kernel_rfl) (by kernel_rfl) rfl (fun _ _ _ h => h) (.inl ⟨rfl, fun W hS => by obtain ⟨s1, s2, s3, s4⟩ := hS; go_simp⟩) hCd ?_
      refine wpAnyF_take (i := 5) (v := .agg #[.int .i64 x, .int .i64 y]) (fuel := 6) rfl (by kernel_rfl) (by kernel_rfl) (by kernel_rfl) (by kernel_rfl) (by kernel_rfl) rfl (fun _ _ _ h => h) (.inl ⟨rfl, fun W hS => by obtain ⟨s1, s2, s3, s4⟩ := hS; go_simp⟩) hCd ?_
      refine wpAnyF_one (i := 6) (fuel := 5) rfl (by kernel_rfl) rfl fun K' hK' => ?_
      go_simp
      refine (hG wr.drew (k3.sp.ext (Ext.refl wr).drew)).mono ?_
      rintro e w5 ⟨rfl, hx5⟩
      have hx5' := (Ext.refl wr).drew.trans hx5
      have hC5 := hC w5 hx5'
      refine hK' _ _ (fun _ => hC5) ?_
      clear hK' K'
      refine wpAnyF_take (i := 7) (v := .tuple #[.string FB, .int .i64 0]) (fuel := 4) rfl (by kernel_rfl) (by kernel_rfl) (by kernel_rfl) (by kernel_rfl) (by kernel_rfl) rfl (fun _ _ _ h => h) (.inl ⟨rfl, fun W hS => by obtain ⟨s1, s2, s3, s4⟩ := hS; go_simp⟩) hC5 ?_
      refine wpAnyF_take (i := 8) (v := .string FB) (fuel := 3) rfl (by kernel_rfl) (by kernel_rfl) (by kernel_rfl) (by kernel_rfl) (by kernel_rfl) rfl (fun _ _ _ h => h) (.inl ⟨rfl, fun W hS => by obtain ⟨s1, s2, s3, s4⟩ := hS; go_simp⟩) hC5 ?_
      refine wpAnyF_take (i := 9) (v := .int .i64 0) (fuel := 2) rfl (by kernel_rfl) (by kernel_rfl) (by kernel_rfl) (by kernel_rfl) (by kernel_rfl) rfl (fun _ _ _ h => h) (.inl ⟨rfl, fun W hS => by obtain ⟨s1, s2, s3, s4⟩ := hS; go_simp⟩) hC5 ?_
      refine wpAnyF_one (i := 10) (fuel := 1) rfl (by kernel_rfl) rfl fun K' hK' => ?_
      go_simp
      refine hK' _ _ (fun _ => hC5) ?_
      clear hK' K'
      refine wpAnyF_one (i := 11) (fuel := 0) rfl (by kernel_rfl) rfl fun K' hK' => ?_
      go_simp
      refine hK' _ _ (fun h => by simp at h) ?_
      clear hK' K'
      refine wpAnyF_done (by kernel_rfl) ?_ 0
      refine NoPanic.normal ?_
      have hbx5 := hbx.ext hx5'
      have hj5 := hJe _ _ _ _ hj hx5'
      clear hC hCd hC5 hG k1 k2 k3 p0 p1 hx5 hj hbx
      have p0 := hbx5.cell (i := 0) rfl
      have p1 := hbx5.cell (i := 1) rfl
      gi_wp2_with (first
        | (refine ⟨trivial, rfl, ?_⟩; gi_at_call 33; refine (callsIn_wide.2 (hRd _)).mono ?_; rintro e w6 ⟨rfl, hx6⟩; have hx7 := hx6.alloc (.cells #[.bool bb, .int .i64 k, .int .i64 nn, .int .i64 p, .int .i64 q, .string part] 73); have hb7 := BoxN.new w6 73 #[.bool bb, .int .i64 k, .int .i64 nn, .int .i64 p, .int .i64 q, .string part]; have q0 := hx7.cell p0; have q1 := hx7.cell p1; have e0 := hb7.cell (i := 0) rfl; have e1 := hb7.cell (i := 1) rfl; have e2 := hb7.cell (i := 2) rfl; have e3 := hb7.cell (i := 3) rfl; have e4 := hb7.cell (i := 4) rfl; have e5 := hb7.cell (i := 5) rfl; have hj7 := hJe _ _ _ _ (hJn _ (fun g => S g ∨ g = w6.heap.size) _ _ (hJe _ _ _ _ hj5 hx6) (fun g hg => hg.imp id (fun e => by omega))) ((Ext.refl w6).alloc (.cells #[.bool bb, .int .i64 k, .int .i64 nn, .int .i64 p, .int .i64 q, .string part] 73)); have hS7 : ∀ x, (S x ∨ x = w6.heap.size) → x < (w6.alloc (.cells #[.bool bb, .int .i64 k, .int .i64 nn, .int .i64 p, .int .i64 q, .string part] 73)).heap.size := (fun x hx => by have hz1 := hx5'.size; have hz2 := hx6.size; simp only [World.size_alloc]; rcases hx with h | h; have := hSl x h; omega; omega); obtain ⟨fn, tmps, assign, body, hy, hR⟩ := hY1 _ _ hj7 hS7)
        | fail)
      refine ⟨rfl, ?_⟩
      refine hR.mono ?_
      intro e W3 h3
      rcases yieldw_cases h3 with ⟨ch, rfl, hp3⟩ | ⟨t, rfl, h4⟩
      · exact ⟨rfl, .inr ⟨ch, rfl, hp3⟩⟩
      · clear h3
        rcases h4 with ⟨rfl, hj3, hs3⟩ | ⟨rfl, hx3⟩
        · have hz7 := hx7.size
          have hbx3 : BoxN W3 pb 38 #[.int .i64 x, .int .i64 y] := (hs3 pb (.inl hS) (Nat.lt_of_lt_of_le hbx5.lt hz7)).trans (hbx5.ext hx7)
          have hb3 : BoxN W3 w6.heap.size 73 #[.bool bb, .int .i64 k, .int .i64 nn, .int .i64 p, .int .i64 q, .string part] := (hs3 w6.heap.size (.inr rfl) hb7.lt).trans hb7
          have g3 := hb3.cell (i := 3) rfl
          have g4 := hb3.cell (i := 4) rfl
          have r0 := hbx3.cell (i := 0) rfl
          have r1 := hbx3.cell (i := 1) rfl
          have v0 := hbx3.frozen 0
          have v1 := hbx3.frozen 1
          have hF := (hbx3.set 0 (.int .i64 p)).set 1 (.int .i64 q)
          have hU := ((UpdF.refl (fun g => S g ∨ g = w6.heap.size) W3).setCell (p := ⟨pb, 0, none⟩) (.inl (.inl hS)) (.int .i64 p)).setCell (p := ⟨pb, 1, none⟩) (.inl (.inl hS)) (.int .i64 q)
          have hj4 := hJu _ _ _ _ hj3 hU
          have m0 := hF.cell (i := 0) rfl
          have m1 := hF.cell (i := 1) rfl
          clear q0 q1 e0 e1 e2 e3 e4 e5 hU hj7 hR hy hJu hY hY1
          have hx8 := (Ext.refl ((W3.setCell ⟨pb, 0, none⟩ (.int .i64 p)).setCell ⟨pb, 1, none⟩ (.int .i64 q))).alloc (.cells #[.int .i64 p, .int .i64 q] 38)
          have hb8 := BoxN.new ((W3.setCell ⟨pb, 0, none⟩ (.int .i64 p)).setCell ⟨pb, 1, none⟩ (.int .i64 q)) 38 #[.int .i64 p, .int .i64 q]
          have hz8 : ((W3.setCell ⟨pb, 0, none⟩ (.int .i64 p)).setCell ⟨pb, 1, none⟩ (.int .i64 q)).heap.size = W3.heap.size := by simp [World.setCell]
          have HB8 := Lib.hid hb8
          have HZ8 := Lib.hid hz8
          have hj8 := hJe _ _ _ _ (hJn _ (fun g => (S g ∨ g = w6.heap.size) ∨ g = ((W3.setCell ⟨pb, 0, none⟩ (.int .i64 p)).setCell ⟨pb, 1, none⟩ (.int .i64 q)).heap.size) _ _ hj4 (fun g hg => hg.imp id (fun e => by omega))) hx8
          have HS3 := Lib.hid (show ∀ x, (S x ∨ x = w6.heap.size) → x < W3.heap.size from fun x hx => (Array.getElem?_eq_some_iff.1 ((hs3 x hx (hS7 x hx)).trans (Array.getElem?_eq_getElem (hS7 x hx)))).1)
          clear hb8 hz8 hS7 hSl
          gi_wp2
          gi_roundg gp
          case measure => omega
          case rel => exact ⟨i + 1, _, _, by have := HGK.out; omega, rfl, by rw [HPQ.out.1, HPQ.out.2]; have h8 := HB8.out; rw [HZ8.out] at h8; exact h8, .inr HZ8.out.symm, (fun x hx => by
            have h8 := HZ8.out
            simp only [World.size_alloc]
            rcases hx with hx | hx
            · have := HS3.out x hx; omega
            · omega), hj8⟩
        · gi_wp2
          refine bodyPost_ret (results_none rfl _ _ _) rfl ?_
          exact .inl ⟨⟨_, rfl⟩, .inr hx3⟩
    · obtain rfl : i = parts.length := by omega
      have hl := hr.last
      rw [hl] at p0 p1
      simp only at p0 p1
      gi_wp2
      go_end0
      exact .inl ⟨⟨_, rfl⟩, .inl ⟨_, S, rfl, hj⟩⟩
end
section
open Go.RowKit Go.Maps
set_option linter.unusedVariables false
set_option linter.unusedSimpArgs false
set_option linter.unusedSectionVars false
set_option maxRecDepth 20000
attribute [local go_sem] Oper.semAt_some

theorem frags_any (h : Nat) (k : Int) (w : World) :
    Calls Try.prog 22 #[.pointer (some ⟨h, 0, none⟩), .int .i64 k] w fun e w' => e = .returned (.func (.func 31) #[] #[.pointer (some ⟨w.heap.size, 0, none⟩), .pointer (some ⟨w.heap.size + 1, 0, none⟩)]) ∧
      Boxed w' w.heap.size 28 (.pointer (some ⟨h, 0, none⟩)) ∧ Boxed w' (w.heap.size + 1) 3 (.int .i64 k) ∧ Ext w w' ∧ w'.heap.size = w.heap.size + 2 := by
  go_enter Try.func22, Try.ntmps22
  go_wp2
  go_ret
  refine ⟨rfl, (Boxed.new _ _ _).alloc _, ?_, ((Ext.refl w).alloc _).alloc _, by simp [World.size_alloc]⟩
  have := Boxed.new (w.alloc (.cells #[.pointer (some ⟨h, 0, none⟩)] 28)) 3 (.int .i64 k)
  rw [World.size_alloc] at this
  exact this

/-- the first parts, put together -/
def catB (l : List ByteArray) (i : Nat) : ByteArray := ⟨((l.take i).flatMap (·.data.toList)).toArray⟩
theorem catB_succ {l : List ByteArray} {i : Nat} (hi : i < l.length) : catB l (i + 1) = catB l i ++ l.getD i ⟨#[]⟩ := by
  unfold catB
  rw [bytes_app, List.take_add_one, List.getD_eq_getElem?_getD, List.getElem?_eq_getElem hi, List.flatMap_append]
  simp
theorem catB_size {l : List ByteArray} (h : ∀ i, i < l.length → (l.getD i ⟨#[]⟩).size ≤ 1000) : ∀ i, i ≤ l.length → (catB l i).size ≤ i * 1000
  | 0, _ => by simp [catB, ByteArray.size]
  | i + 1, hi => by
    have h1 := catB_size h i (by omega)
    have h2 := h i (by omega)
    rw [catB_succ (by omega), ByteArray.size_append]
    omega
theorem catB_parts (m : Nat) (s : ByteArray) : catB (partsL m s) (partsL m s).length = s := by
  unfold catB
  rw [List.take_length, partsL_join]
set_option maxHeartbeats 4000000 in
theorem data_any {w : World} {h A g M size most cap : Nat} {l : List ByteArray} {lv : List UInt8} {mp : List (Int × Adr)} (H : Hp w h A g M size most cap l lv mp) {k : Int} {all : Nat} {parts : List ByteArray} {ads : Nat → Adr} (hr : RecAt size l k all parts ads) (hm : hasI mp k = true) (ha : atI mp k = ads 0) :
    Calls Try.prog 21 #[.pointer (some ⟨h, 0, none⟩), .int .i64 k] w fun e w' => e = .returned (.string (catB parts parts.length)) ∧ Ext w w' := by
  refine calls_of_wpAt Try.func21 rfl ?_
  simp only [Try.ntmps21, List.size_toArray, List.length_cons, List.length_nil, Nat.reduceAdd, Nat.reduceSub, Array.replicate_succ, Array.replicate_zero, List.push_toArray, List.append_toArray, List.nil_append, List.cons_append]
  have hCS := Lib.hid (catB_size hr.psz)
  have hlen := hr.len
  refine wpAt_seq_k (fun K hK' => ?_)
  go_wp2
  refine wpAt_seq_k (fun K hK' => ?_)
  go_wp2
  obtain ⟨W0, hW0⟩ : ∃ W0, w.alloc (.cells #[.string ⟨#[]⟩] 9) = W0 := ⟨_, rfl⟩
  have hx0 : Ext w W0 := hW0 ▸ (Ext.refl w).alloc _
  have hs0 : W0.heap.size = w.heap.size + 1 := by rw [← hW0]; simp
  have hb0 : Boxed W0 w.heap.size 9 (.string ⟨#[]⟩) := hW0 ▸ Boxed.new _ _ _
  try rw [hW0]
  clear hW0
  refine wpAt_seq ?_
  refine wpAt_seq_k (fun K hK' => ?_)
  go_wp2_with (go_at_call 22; refine (frags_any h k _).mono ?_; rintro e w1 ⟨rfl, e1, e2, hx1, hs1⟩)
  have hx1' := hx0.trans hx1
  have hb1 := hx1.heap hb0
  rw [hs0] at e1 e2 hs1
  refine wpAt_block ?_
  refine wpAt_rangeFuncW (hf := Try.func21) (gf := 31) (lb := #[.pointer (some ⟨w.heap.size + 1, 0, none⟩), .pointer (some ⟨w.heap.size + 1 + 1, 0, none⟩)]) rfl (enters_of Try.func31 (by kernel_rfl) rfl)
    (frag_seq (w.heap.size + 1) (w.heap.size + 1 + 1) h A g M size most cap l lv mp k all parts ads hr hm ha) (fun s e s' hR => by obtain ⟨_, _, rfl⟩ := hR; rfl)
    (fun S i W => i ≤ parts.length ∧ Boxed W w.heap.size 9 (.string (catB parts i)) ∧ Boxed W (w.heap.size + 1) 28 (.pointer (some ⟨h, 0, none⟩)) ∧ Boxed W (w.heap.size + 1 + 1) 3 (.int .i64 k) ∧ Ext w W ∧ ∀ x, S x → w.heap.size + 3 ≤ x)
    (fun _ _ => False) (fun _ _ => False)
    (fun S i A B ⟨h0, h1, h2, h3, h4, h5⟩ hx => ⟨h0, hx.heap h1, hx.heap h2, hx.heap h3, h4.trans hx, h5⟩)
    (fun S T i A ⟨h0, h1, h2, h3, h4, h5⟩ hT => ⟨h0, h1, h2, h3, h4, fun x hx => by
      have := h3.lt
      rcases hT x hx with h6 | h6
      · exact h5 x h6
      · omega⟩)
    (fun S i A B ⟨h0, h1, h2, h3, h4, h5⟩ hx => ⟨h0, hx.heap h1 (fun e => by have := h5 _ e; omega), hx.heap h2 (fun e => by have := h5 _ e; omega), hx.heap h3 (fun e => by have := h5 _ e; omega), hx.ext h4 (fun x hS => by have := h5 x hS; omega), h5⟩)
    (fun _ _ _ h _ => h)
    (fun S i A r r' ⟨h0, h1, h2, h3, h4, h5⟩ hl => ⟨h0, (World.putObj_heap_other (by omega)).trans h1, (World.putObj_heap_other (by omega)).trans h2, (World.putObj_heap_other (by omega)).trans h3, Upd.ext h4 (grownBy_putObj' _ _ _) (by omega), h5⟩)
    (fun _ _ _ _ h _ => h)
    (fun S i A ⟨h0, h1, h2, h3, h4, h5⟩ => ⟨h2, h3, H.ext h4⟩)
    ⟨Nat.zero_le _, hb1, e1, e2, hx1', fun x hx => hx.elim⟩ ?round ?done (fun _ _ h _ => h.elim) (fun _ _ h _ => h.elim)
  case round =>
    rintro S i e i' W r ⟨h0, h1, h2, h3, h4, h5⟩ hSg hW hD hL ⟨hlt, rfl, rfl⟩
    have HC := Lib.hid (catB_succ hlt)
    have hcz := hCS.out i (by omega)
    have hpz := hr.psz i hlt
    simp only [adV, frW]
    have hmul : i * 1000 ≤ 4001 * 1000 := Nat.mul_le_mul (by omega) (Nat.le_refl _)
    have HZ := Lib.hid h5
    have HS := Lib.hid hSg
    have c5 : ¬ 9223372036854775807 < (catB parts i).size + (parts.getD i ⟨#[]⟩).size := by omega
    clear hSg
    generalize parts.getD i ⟨#[]⟩ = part at *
    generalize catB parts i = acc at *
    generalize decide ((i : Int) = 0) = bb at *
    generalize (if (i : Int) = 0 then (all : Int) else i) = nn at *
    generalize (ads (i + 1)).1 = p at *
    generalize (ads (i + 1)).2 = q at *
    gi_wp2
    refine ⟨?_, ?_, by simp, ?_, ?_⟩
    · exact Below.heap_alloc _ _ _ (by omega)
    · exact Below.heap_alloc _ _ _ (by omega)
    · exact fun x _ hlt => Below.heap_alloc _ _ _ hlt
    rintro W5 r' hW5
    have hbx : BoxN W5 W.heap.size 73 #[.bool bb, .int .i64 k, .int .i64 nn, .int .i64 p, .int .i64 q, .string part] := by
      rw [hW5]
      exact (World.putObj_heap_other (by omega)).trans (BoxN.new W _ _)
    have hz5 : W5.heap.size = W.heap.size + 1 := by rw [hW5]; simp
    have hx4 := (Ext.refl W).alloc (.cells #[.bool bb, .int .i64 k, .int .i64 nn, .int .i64 p, .int .i64 q, .string part] 73)
    replace h1 : Boxed W5 w.heap.size 9 (.string acc) := by rw [hW5]; exact (World.putObj_heap_other (by omega)).trans (hx4.heap h1)
    replace h2 : Boxed W5 (w.heap.size + 1) 28 (.pointer (some ⟨h, 0, none⟩)) := by rw [hW5]; exact (World.putObj_heap_other (by omega)).trans (hx4.heap h2)
    replace h3 : Boxed W5 (w.heap.size + 1 + 1) 3 (.int .i64 k) := by rw [hW5]; exact (World.putObj_heap_other (by omega)).trans (hx4.heap h3)
    replace h4 : Ext w W5 := by rw [hW5]; exact Upd.ext (h4.trans hx4) (grownBy_putObj' _ _ _) (by omega)
    have c1 := h1.cell
    have f1 := h1.frozen
    have c2 := hbx.cell (i := 5) rfl
    clear hW5 hD hL hx4
    gi_wp2
    refine ⟨?_, ?_, ?_, by omega, ?_, ?_, ?_, ?_, HZ.out⟩
    · exact Below.heap_setCell _ _ _ _ (by simp; omega)
    · exact Below.heap_setCell _ _ _ _ (by simp; omega)
    · exact fun x hx _ => Below.heap_setCell _ _ _ _ (by have := HS.out x hx; simp; omega)
    · rw [HC.out]; exact h1.set _
    · exact h2.other (by simp) _
    · exact h3.other (by simp; omega) _
    · exact h4.setCell (by simp) _
  case done =>
    rintro S i W rfl ⟨h0, h1, h2, h3, h4, h5⟩ hD
    rw [hs1] at hD
    refine wpAt_of_wp ?_
    have u1 := Boxed.cell (Upd.heap (grownBy_putObj' W (w.heap.size + 3) (.deferred none)) h1 (by omega))
    have hxW : Ext w (W.putObj (w.heap.size + 3) (.deferred none)) := Upd.ext h4 (grownBy_putObj' _ _ _) (by omega)
    have hc := h1.cell
    go_wp2
    refine ⟨by simp, .inl ⟨_, _, rfl, run_takeDeferred hD, ?_⟩⟩
    exact ⟨_, results_tmp rfl _ _ _, rfl, hxW⟩

/-- what a key is asked -/
def askF (mp : List (Int × Adr)) (k : Int) : Int := if 1 ≤ k ∧ k ≤ 1000000 then (if hasI mp k = true then 0 else 8) else 7
theorem asked8_any {w : World} {h A g M size most cap : Nat} {l : List ByteArray} {lv : List UInt8} {mp : List (Int × Adr)} (H : Hp w h A g M size most cap l lv mp) (k : Int) :
    Calls Try.prog 20 #[.pointer (some ⟨h, 0, none⟩), .int .i64 k] w fun e w' => e = .returned (.int .i64 (askF mp k)) ∧ Ext w w' := by
  have hK := fun W => key_is k W
  unfold askF
  by_cases hk : 1 ≤ k ∧ k ≤ 1000000
  · rw [if_pos hk]
    rw [decide_eq_true hk] at hK
    have hok : OkI k := ⟨by omega, by omega⟩
    have hlk := H.map.look_ok (t := 47) Try.underlying47 hok
    simp only [adV] at hlk
    have c2 := H.box.cell (i := 2) rfl
    generalize (atI mp k).1 = x at *
    generalize (atI mp k).2 = y at *
    cases hm : hasI mp k with
    | true =>
      rw [hm] at hlk
      rw [if_pos rfl]
      clear hk hok hm
      go_enter Try.func20, Try.ntmps20
      go_wp2_with (go_at_call 11; refine (hK _).mono ?_; rintro e w1 ⟨rfl, rfl⟩)
      go_ret
      exact ⟨rfl, (Ext.refl w).alloc _⟩
    | false =>
      rw [hm] at hlk
      rw [if_neg (by simp)]
      clear hk hok hm
      go_enter Try.func20, Try.ntmps20
      go_wp2_with (go_at_call 11; refine (hK _).mono ?_; rintro e w1 ⟨rfl, rfl⟩)
      go_ret
      exact ⟨rfl, (Ext.refl w).alloc _⟩
  · rw [if_neg hk]
    rw [decide_eq_false hk] at hK
    clear hk
    go_enter Try.func20, Try.ntmps20
    go_wp2_with (go_at_call 11; refine (hK _).mono ?_; rintro e w1 ⟨rfl, rfl⟩)
    go_ret
    exact ⟨rfl, Ext.refl w⟩
theorem askF_zero {mp : List (Int × Adr)} {k : Int} (hk : 1 ≤ k ∧ k ≤ 1000000) (hm : hasI mp k = true) : askF mp k = 0 := by
  unfold askF
  rw [if_pos hk, if_pos hm]
theorem get8_yes {w : World} {h A g M size most cap : Nat} {l : List ByteArray} {lv : List UInt8} {mp : List (Int × Adr)} (H : Hp w h A g M size most cap l lv mp) {k : Int} {all : Nat} {parts : List ByteArray} {ads : Nat → Adr} (hr : RecAt size l k all parts ads) (hm : hasI mp k = true) (ha : atI mp k = ads 0) :
    Calls Try.prog 9 #[.pointer (some ⟨h, 0, none⟩), .int .i64 k] w fun e w' => e = .returned (.tuple #[.string (catB parts parts.length), .int .i64 0]) ∧ Ext w w' := by
  have hA := asked8_any H k
  rw [askF_zero hr.key hm] at hA
  have hD := fun W (hx : Ext w W) => data_any (H.ext hx) hr hm ha
  generalize catB parts parts.length = T at *
  go_enter Try.func9, Try.ntmps9
  go_wp2_with (first
    | (go_at_call 20; refine hA.mono ?_; rintro e w1 ⟨rfl, hx1⟩)
    | (go_at_call 21; refine (hD _ hx1).mono ?_; rintro e w2 ⟨rfl, hx2⟩))
  go_ret2
  exact ⟨rfl, hx1.trans hx2⟩
theorem get8_no {w : World} {h A g M size most cap : Nat} {l : List ByteArray} {lv : List UInt8} {mp : List (Int × Adr)} (H : Hp w h A g M size most cap l lv mp) {k : Int} (hn : askF mp k ≠ 0) :
    Calls Try.prog 9 #[.pointer (some ⟨h, 0, none⟩), .int .i64 k] w fun e w' => e = .returned (.tuple #[.string ⟨#[]⟩, .int .i64 (askF mp k)]) ∧ Ext w w' := by
  have hA := asked8_any H k
  generalize askF mp k = c at *
  have d5 : (c != 0) = true := by simpa using hn
  clear hn
  go_enter Try.func9, Try.ntmps9
  go_wp2_with (first
    | (go_at_call 20; refine hA.mono ?_; rintro e w1 ⟨rfl, hx1⟩))
  go_ret2
  exact ⟨rfl, hx1⟩
theorem pages8 {w : World} {h A g M size most cap : Nat} {l : List ByteArray} {lv : List UInt8} {mp : List (Int × Adr)} (H : Hp w h A g M size most cap l lv mp) :
    Calls Try.prog 26 #[.pointer (some ⟨h, 0, none⟩)] w fun e w' => e = .returned (.pointer (some ⟨A, 0, none⟩)) ∧ w = w' := by
  have c0 := H.box.cell (i := 0) rfl
  go_enter Try.func26, Try.ntmps26
  go_wp2
  go_ret
  exact ⟨rfl, rfl⟩
theorem pagesN8 {w : World} {h A g M size most cap : Nat} {l : List ByteArray} {lv : List UInt8} {mp : List (Int × Adr)} (H : Hp w h A g M size most cap l lv mp) :
    Calls Try.prog 18 #[.pointer (some ⟨h, 0, none⟩)] w fun e w' => e = .returned (.int .i64 l.length) ∧ w = w' := by
  have hP := pages8 H
  have hN := pages_is A lv size (some ⟨g, 0, none⟩) l.length cap w H.sp.ar
  go_enter Try.func18, Try.ntmps18
  go_wp2_with (first
    | (go_at_call 26; refine hP.mono ?_; rintro e w1 ⟨rfl, rfl⟩)
    | (go_at_call 27; refine hN.mono ?_; rintro e w2 ⟨rfl, rfl⟩))
  go_ret
  exact ⟨rfl, rfl⟩
end
end Go.Proofs.Ytcbainmpikcfjaa
