/- LkV; LkX; LmA (merged by group.py) -/
import Derived.Test.YtaciedooeeklpaaDoorQ09
import Derived.Sort.MapsRangeIn
import Derived.Shelf.Abstract
namespace Go.Proofs.YtaciedooeeklpaaDoor
section
open Go.RowKit Go.Maps
set_option linter.unusedVariables false
set_option linter.unusedSimpArgs false
set_option linter.unusedSectionVars false
set_option maxRecDepth 100000
attribute [local go_sem] Oper.semAt_some

/-- a step of the iterator: one more unit that blocks the request -/
def BkR (H : HeldL) (F : LineL) (g : Gr) (s : List Int) (e : Array Value) (s' : List Int) : Prop := ∃ v, e = #[.int .i64 v] ∧ s' = s ++ [v] ∧ v ∈ forL H F g ∧ s.length < H.length + F.length
/-- the iterator has ended: all were told -/
def BkD (H : HeldL) (F : LineL) (g : Gr) (s : List Int) : Prop := ∀ v, v ∈ forL H F g → v ∈ s
/-- what the iterator reads: c: the locks, c + 1: the request, c + 2: how far down the line -/
structure BkK (c b n : Nat) (x : Rq) (om : Obj) (v : Value) (H : HeldL) (L : LineL) (A : World) : Prop where
  k1 : Boxed A c 35 (.pointer (some ⟨b + 2, 0, none⟩))
  k2 : BoxN A (c + 1) 75 (Rq.cells x).toArray
  k3 : Boxed A (c + 2) 3 (.int .i64 n)
  box : BoxN A (b + 2) 68 #[.map (some b), .map (some (b + 1)), v]
  om : A.heap[b]? = some om
  held : MapA dvI 3 A b (heldA H)
  line : OwnG Rq.cells 75 4 A (b + 3) v L
theorem ranges_same {k : TypeId} {R : Value → Option (DataW Unit × List MemPlace)} {w w' : World} {b r n : Nat} {D : DataW Unit} {left : Lit → Bool} {cnt : Nat} (h : w.ranges Tryd.prog k R b r n D left cnt) (hb : w'.heap[b]? = w.heap[b]?) (hr : w'.heap[r]? = w.heap[r]?) : w'.ranges Tryd.prog k R b r n D left cnt := by
  obtain ⟨es, clock, since, seen, c0, h1, h2, h3, h4, h5, h6⟩ := h
  exact ⟨es, clock, since, seen, c0, hb.trans h1, h2, h3, h4, hr.trans h5, h6⟩
theorem lblocked_any (b n : Nat) (x : Rq) (w : World) : Calls Tryd.prog 53 #[.pointer (some ⟨b + 2, 0, none⟩), x.v, .int .i64 n] w fun e w' =>
    e = .returned (.func (.func 70) #[] #[.pointer (some ⟨w.heap.size, 0, none⟩), .pointer (some ⟨w.heap.size + 1, 0, none⟩), .pointer (some ⟨w.heap.size + 2, 0, none⟩)]) ∧
      w' = ((w.alloc (.cells #[.pointer (some ⟨b + 2, 0, none⟩)] 35)).alloc (.cells (Rq.cells x).toArray 75)).alloc (.cells #[.int .i64 n] 3) := by
  have hmf : ∀ (fn : Fn) (first cap : Array Value) (w : World), (Instr.makeFunc fn first cap).run Tryd.prog w = .ok (.func fn first cap) w := fun _ _ _ _ => rfl
  unfold Rq.v
  go_enter Tryd.func53, Tryd.ntmps53
  go_wp2
  go_ret
  exact ⟨rfl, rfl⟩
theorem slice_upto (a : Option Addr) (len c n : Nat) (hn : n ≤ len) (hc : len ≤ c) (w : World) : (Instr.slice 66 (.slice a len c) none (some (.int .i64 n)) none).run Tryd.prog w = .ok (.slice a n c) w := by
  rw [run_slice_h (w := w) 66 a len c (by kernel_rfl) .i64 n (by omega) (by omega)]
  have hs : (Tryd.prog.info? (Tryd.prog.elem 66)).map (·.size) = some 4 := by kernel_rfl
  cases hq : Tryd.prog.info? (Tryd.prog.elem 66) with
  | none => simp [hq] at hs
  | some i =>
    have ha : ∀ x : Addr, x.add 0 = x := fun x => rfl
    cases a <;> simp [sizeOf, typeInfo, hq, sliced, Result.andThen, ha]
theorem forL_held {H : HeldL} {F : LineL} {g : Gr} {e : Gr × Bool} (he : e ∈ H) (h : against g e.1 = true) : e.1.1 ∈ forL H F g := forL_iff.2 ⟨e, .inl he, h, rfl⟩
theorem forL_line {H : HeldL} {F : LineL} {g : Gr} {e : Gr × Bool} (he : e ∈ F) (h : against g e.1 = true) : e.1.1 ∈ forL H F g := forL_iff.2 ⟨e, .inr he, h, rfl⟩
theorem held_one : ∀ {H : HeldL}, ((heldA H).map (·.1)).Nodup → ∀ {e e' : Gr × Bool}, e ∈ H → e' ∈ H → (e.1.1, e.1.2.1) = (e'.1.1, e'.1.2.1) → e = e'
  | [], _, e, e', he, _, _ => by cases he
  | y :: H, hn, e, e', he, he', h => by
    have hn2 : ((y.1.1, y.1.2.1) ∉ (heldA H).map (·.1)) ∧ ((heldA H).map (·.1)).Nodup := List.nodup_cons.1 hn
    have hin : ∀ z, z ∈ H → (z.1.1, z.1.2.1) ∈ (heldA H).map (·.1) := fun z hz => List.mem_map.2 ⟨_, List.mem_map.2 ⟨z, hz, rfl⟩, rfl⟩
    rcases List.mem_cons.1 he with rfl | h1 <;> rcases List.mem_cons.1 he' with rfl | h2
    · rfl
    · exact absurd (by rw [h]; exact hin _ h2) hn2.1
    · exact absurd (by rw [← h]; exact hin _ h1) hn2.1
    · exact held_one hn2.2 h1 h2 h
set_option maxHeartbeats 8000000 in
theorem blocked_seq (c b n : Nat) (x : Rq) (om : Obj) (v : Value) (H : HeldL) (L : LineL) (hn : n ≤ L.length) (hL : L.length ≤ 1000000)
    (hmx : modeN x.1.2.2 = true) (hsx : x.1.2.1.size ≤ 1000000) (hmH : ∀ e ∈ H, modeN e.1.2.2 = true) (hmL : ∀ e ∈ L, modeN e.1.2.2 = true ∧ e.1.2.1.size ≤ 1000000) :
    SeqM Tryd.prog 70 #[.pointer (some ⟨c, 0, none⟩), .pointer (some ⟨c + 1, 0, none⟩), .pointer (some ⟨c + 2, 0, none⟩)] (BkR H (L.take n) x.1) [] (BkD H (L.take n) x.1) (BkK c b n x om v H L) := by
  intro l J Jx Jp W hJ hJr hJx hK hY h0
  have hk0 := hK _ _ h0
  obtain ⟨D, hown, hnd, hok, hhas, hat, hsz⟩ := hk0.held
  have hlt : ∀ i A, J i A → b < A.heap.size := fun i A h => (hK i A h).held.lt
  refine callsIn_of_wp Tryd.func70 rfl trivial ?_ rfl
  simp only [Tryd.ntmps70, List.size_toArray, List.length_cons, List.length_nil, Nat.reduceAdd, Nat.reduceSub, Array.replicate_succ, Array.replicate_zero, List.push_toArray, List.append_toArray, List.nil_append, List.cons_append]
  have k1 := hk0.k1.cell
  have kb := hk0.box.cell (i := 0) rfl
  gi_wp2_with (gi_at_range; refine wpListIn_range_own _ rfl _ _ rfl 72 3 plKeyed Tryd.underlying64 _ b _ D rfl hown ?_; intro W1 hr1 hg1 hz1)
  have hx1 : Ext W W1 := ⟨hg1.os, hg1.tape, hg1.output, hg1.size, fun i hi => hg1.block i hi (by simp)⟩
  have hJ1 := hJ _ _ _ h0 hx1
  have hszH : size D = H.length := by rw [hsz]; unfold heldA; rw [List.length_map]
  rw [hszH] at hr1
  clear k1 kb hk0 h0
  go_frame
  gi_loopg [14] H.length (fun k _ wr => ∃ (s : List Int) (left : Lit → Bool), J s wr ∧ wr.ranges Tryd.prog 72 (plainElem (H := Unit) Tryd.prog 3) b W.heap.size (heldA H).length D left k ∧ Hid (∀ e ∈ H, left (mkP (e.1.1, e.1.2.1)) = false → against x.1 e.1 = true → e.1.1 ∈ s) ∧ s.length + k ≤ H.length)
  case atStart =>
    refine ⟨[], _, hJ1, hr1, Lib.hid (fun e he hl _ => ?_), by simp⟩
    have := (hhas (mkP (e.1.1, e.1.2.1))).2 ⟨((e.1.1, e.1.2.1), e.1.2.2), List.mem_map.2 ⟨e, he, rfl⟩, rfl⟩
    rw [this] at hl
    cases hl
  case round =>
    obtain ⟨s, left, hj, hr, hall, hlen⟩ := hrel
    rcases hr.next plKeyed 0 with ⟨hc0, hl0, hrun⟩ | ⟨key, v0, kl, y, w', cnt', hkey, hlk, hv, hatk, hrun, hrg, hclt, hgr, hszw, hen⟩
    · have HALL := Lib.hid (show ∀ e ∈ H, against x.1 e.1 = true → e.1.1 ∈ s from fun e he ha => hall.out e he (hl0 _) ha)
      have hka := hK _ _ hj
      obtain ⟨P, cap, rfl, hsl⟩ := OwnG.slG elemR hka.line (by omega)
      have k1 := hka.k1.cell
      have kb2 : wr.cell? ⟨b + 2, 2, none⟩ = some (.slice P L.length cap) := hka.box.cell (i := 2) rfl
      have k3 := hka.k3.cell
      have hcap := hsl.le
      have hcap2 := hsl.cap
      have hcu := slice_upto P L.length cap n hn hcap
      have hrs := hr.lt
      clear hall hl0 hr
      gi_wp2
      gi_quiet (fail)
      have hJd := hJ _ _ _ hj ((Ext.refl wr).drewN nq)
      have hls : s.length ≤ H.length := by omega
      have HMX := Lib.hid (And.intro hmx hsx)
      clear k1 kb2 k3 hcu hrun hj hsl hka
      gi_wp2
      gi_loopw [53] (fun ix w2 => ∃ (j : Nat) (s2 : List Int), j ≤ n ∧ ix = .int .i64 j ∧ (J s2 w2 ∧ W.heap.size < w2.heap.size) ∧ Hid ((∀ z, z ∈ s → z ∈ s2) ∧ ∀ (i : Nat) (e : Rq), i < j → L[i]? = some e → against x.1 e.1 = true → e.1.1 ∈ s2) ∧ s2.length ≤ H.length + j) (fun ix _ => n - (intOf ix).toNat)
      case atStart => exact ⟨0, s, by omega, rfl, ⟨hJd, hrs⟩, Lib.hid ⟨fun z hz => hz, fun i e hi => by omega⟩, by omega⟩
      case round =>
        obtain ⟨j, s2, hjn, rfl, ⟨hj2, hws⟩, hin, hl2⟩ := hrel
        have hka2 := hK _ _ hj2
        obtain ⟨P', cap', hv', hsl2⟩ := OwnG.slG elemR hka2.line (by omega)
        injection hv' with hv1 hv2 hv3
        subst hv1 hv3
        by_cases hlt : j < n
        · obtain ⟨e, hs⟩ : ∃ e, L[j]? = some e := ⟨_, List.getElem?_eq_getElem (by omega)⟩
          obtain ⟨bb, off, hP, g0, g1, g2, g3⟩ := SlR.at4 hsl2 j e hs
          subst hP
          have cj : (j : Int) < n := by omega
          have c0 : (0 : Int) ≤ (j : Int) := by omega
          have d1 : IntKind.i64.wrap ((j : Int) + 1) = (j : Int) + 1 := IntWalk.i64_in _ ⟨by omega, by omega⟩
          obtain ⟨hmod, hsz2⟩ := hmL e (List.mem_of_getElem? hs)
          have HST := fun (s' : List Int) (h1 : against x.1 e.1 = true → e.1.1 ∈ s') (h2 : ∀ z, z ∈ s2 → z ∈ s') => Lib.hid (show (∀ z, z ∈ s → z ∈ s') ∧ ∀ (i : Nat) (e : Rq), i < j + 1 → L[i]? = some e → against x.1 e.1 = true → e.1.1 ∈ s' from ⟨fun z hz => h2 _ (hin.out.1 z hz), fun i e' hi he' ha => by
            by_cases hij : i = j
            · subst hij
              rw [hs] at he'
              injection he' with he'
              subst he'
              exact h1 ha
            · exact h2 _ (hin.out.2 i e' (by omega) he' ha)⟩)
          have hag : against x.1 e.1 = (decide (x.1.1 ≠ e.1.1) && touchN x.1.2.1 e.1.2.1 && clashN x.1.2.2 e.1.2.2) := rfl
          have hln : (L.take n).length = n := by rw [List.length_take]; omega
          have hfor := fun h => forL_line (H := H) (g := x.1) (List.mem_of_getElem? (show (L.take n)[j]? = some e by rw [List.getElem?_take_of_lt hlt]; exact hs)) h
          have hja := hJ s2 wr _ hj2 ((Ext.refl wr).alloc (.cells #[.int .i64 e.1.1, .string e.1.2.1, .int .i64 e.1.2.2, .bool e.2] 75))
          have hka := hK _ _ hja
          have kx0 : (wr.alloc (.cells #[.int .i64 e.1.1, .string e.1.2.1, .int .i64 e.1.2.2, .bool e.2] 75)).cell? ⟨c + 1, 0, none⟩ = some (.int .i64 x.1.1) := hka.k2.cell (i := 0) rfl
          have kx1 : (wr.alloc (.cells #[.int .i64 e.1.1, .string e.1.2.1, .int .i64 e.1.2.2, .bool e.2] 75)).cell? ⟨c + 1, 1, none⟩ = some (.string x.1.2.1) := hka.k2.cell (i := 1) rfl
          have kx2 : (wr.alloc (.cells #[.int .i64 e.1.1, .string e.1.2.1, .int .i64 e.1.2.2, .bool e.2] 75)).cell? ⟨c + 1, 2, none⟩ = some (.int .i64 x.1.2.2) := hka.k2.cell (i := 2) rfl
          clear hka hka2 hsl2 hs hin hj2
          by_cases hu : e.1.1 = x.1.1
          · have hr1 := HST s2 (fun h => by rw [hag, decide_eq_false (fun h => h hu.symm)] at h; cases h) (fun z hz => hz)
            have e1 : (e.1.1 != x.1.1) = false := by rw [hu]; simp
            have e2 : (e.1.1 == x.1.1) = true := by rw [hu]; simp
            clear HST hfor hag hu hln
            gi_wp2_with (first | (refine ⟨trivial, rfl, ?_⟩; gi_at_call 24; refine (callsIn_wide.2 hC).mono ?_; rintro r5 w5 ⟨rfl, rfl⟩) | (refine ⟨trivial, rfl, ?_⟩; gi_at_call 18; refine (callsIn_wide.2 hT).mono ?_; rintro r6 w6 ⟨rfl, hx6⟩) | (refine ⟨trivial, ?_⟩) | (with_reducible refine And.intro (fun _ hf => (by cases hf)) ?_))
            go_roundw
            case rel => exact ⟨j + 1, s2, by omega, by go_num, ⟨hja, by rw [World.size_alloc]; omega⟩, hr1, by omega⟩
            case measure => simp [intOf, d1]; omega
          · have e1 : (e.1.1 != x.1.1) = true := by simpa using hu
            have e2 : (e.1.1 == x.1.1) = false := by simpa using hu
            have hC := lclash_any e.1.2.2 x.1.2.2 (wr.alloc (.cells #[.int .i64 e.1.1, .string e.1.2.1, .int .i64 e.1.2.2, .bool e.2] 75)) hmod hmx
            cases hcl : clashN e.1.2.2 x.1.2.2 with
            | false =>
              have hr1 := HST s2 (fun h => by rw [hag, clashN_symm, hcl, Bool.and_false] at h; cases h) (fun z hz => hz)
              rw [hcl] at hC
              clear HST hfor hag hu hcl hln
              gi_wp2_with (first | (refine ⟨trivial, rfl, ?_⟩; gi_at_call 24; refine (callsIn_wide.2 hC).mono ?_; rintro r5 w5 ⟨rfl, rfl⟩) | (refine ⟨trivial, rfl, ?_⟩; gi_at_call 18; refine (callsIn_wide.2 hT).mono ?_; rintro r6 w6 ⟨rfl, hx6⟩) | (refine ⟨trivial, ?_⟩) | (with_reducible refine And.intro (fun _ hf => (by cases hf)) ?_))
              go_roundw
              case rel => exact ⟨j + 1, s2, by omega, by go_num, ⟨hja, by rw [World.size_alloc]; omega⟩, hr1, by omega⟩
              case measure => simp [intOf, d1]; omega
            | true =>
              rw [hcl] at hC
              have hT := ltouch_any e.1.2.1 x.1.2.1 (wr.alloc (.cells #[.int .i64 e.1.1, .string e.1.2.1, .int .i64 e.1.2.2, .bool e.2] 75)) hsz2 hsx
              have kn : (wr.alloc (.cells #[.int .i64 e.1.1, .string e.1.2.1, .int .i64 e.1.2.2, .bool e.2] 75)).cell? ⟨wr.heap.size, 0, none⟩ = some (.int .i64 e.1.1) := (BoxN.new wr 75 #[.int .i64 e.1.1, .string e.1.2.1, .int .i64 e.1.2.2, .bool e.2]).cell (i := 0) rfl
              cases hto : touchN e.1.2.1 x.1.2.1 with
              | false =>
                have hr1 := HST s2 (fun h => by rw [hag, touchN_symm, hto, Bool.and_false, Bool.false_and] at h; cases h) (fun z hz => hz)
                rw [hto] at hT
                clear HST hfor hag hu hcl hto hln
                gi_wp2_with (first | (refine ⟨trivial, rfl, ?_⟩; gi_at_call 24; refine (callsIn_wide.2 hC).mono ?_; rintro r5 w5 ⟨rfl, rfl⟩) | (refine ⟨trivial, rfl, ?_⟩; gi_at_call 18; refine (callsIn_wide.2 hT).mono ?_; rintro r6 w6 ⟨rfl, hx6⟩) | (refine ⟨trivial, ?_⟩) | (with_reducible refine And.intro (fun _ hf => (by cases hf)) ?_))
                go_roundw
                case rel => exact ⟨j + 1, s2, by omega, by go_num, ⟨hJ _ _ _ hja hx6, by have := hx6.size; rw [World.size_alloc] at this; omega⟩, hr1, by omega⟩
                case measure => simp [intOf, d1]; omega
              | true =>
                have hagt : against x.1 e.1 = true := by
                  have hd : decide (x.1.1 ≠ e.1.1) = true := by simp; exact fun h => hu h.symm
                  rw [hag, touchN_symm, hto, clashN_symm, hcl, hd]
                  rfl
                have hst := HST (s2 ++ [e.1.1]) (fun _ => by simp) (fun z hz => List.mem_append_left _ hz)
                have hrl : W.heap.size < (wr.alloc (.cells #[.int .i64 e.1.1, .string e.1.2.1, .int .i64 e.1.2.2, .bool e.2] 75)).heap.size := by
                  rw [World.size_alloc]
                  omega
                obtain ⟨o, ho⟩ : ∃ o, (wr.alloc (.cells #[.int .i64 e.1.1, .string e.1.2.1, .int .i64 e.1.2.2, .bool e.2] 75)).heap[W.heap.size]? = some o := ⟨_, Array.getElem?_eq_getElem hrl⟩
                have hYY := fun A hx => hY s2 #[.int .i64 e.1.1] (s2 ++ [e.1.1]) A o (hJ _ _ _ hja hx) ⟨e.1.1, rfl, rfl, hfor hagt, by omega⟩ (Ext.heap hx ho)
                rw [hto] at hT
                clear HST hfor hag hu hcl hto hagt ho hrl hln
                gi_wp2_with (first | (refine ⟨trivial, rfl, ?_⟩; gi_at_call 24; refine (callsIn_wide.2 hC).mono ?_; rintro r5 w5 ⟨rfl, rfl⟩) | (refine ⟨trivial, rfl, ?_⟩; gi_at_call 18; refine (callsIn_wide.2 hT).mono ?_; rintro r6 w6 ⟨rfl, hx6⟩; obtain ⟨fn, tmps, assign, body, hy, hR⟩ := hYY _ hx6; have kn6 := hx6.cell kn) | (refine ⟨trivial, ?_⟩) | (with_reducible refine And.intro (fun _ hf => (by cases hf)) ?_))
                refine ⟨rfl, ?_⟩
                refine hR.mono ?_
                intro e3 W3 h3
                rcases yieldb_cases h3 with ⟨ch, rfl, hp3⟩ | ⟨t, rfl, h4⟩
                · exact ⟨rfl, .inr ⟨ch, rfl, hp3⟩⟩
                · clear h3
                  rcases h4 with ⟨rfl, hj3, ho3⟩ | ⟨rfl, hx3⟩
                  · gi_wp2
                    go_roundw
                    case rel => exact ⟨j + 1, s2 ++ [e.1.1], by omega, by go_num, ⟨hj3, (Array.getElem?_eq_some_iff.1 ho3).1⟩, hst, by simp; omega⟩
                    case measure => simp [intOf, d1]; omega
                  · gi_wp2
                    refine bodyPost_ret (results_none rfl _ _ _) rfl ?_
                    exact .inl ⟨⟨_, rfl⟩, .inr hx3⟩
        · obtain rfl : j = n := by omega
          have cj : ¬ (j : Int) < j := by omega
          have HE := Lib.hid (show BkD H (L.take j) x.1 s2 from fun z hz => by
            obtain ⟨e, h1, h2, h3⟩ := forL_iff.1 hz
            rcases h1 with h1 | h1
            · rw [← h3]; exact hin.out.1 _ (HALL.out e h1 h2)
            · obtain ⟨i, hi, hie⟩ := List.mem_iff_getElem.1 h1
              have hi2 : i < j := by rw [List.length_take] at hi; omega
              rw [List.getElem_take] at hie
              rw [← h3]
              exact hin.out.2 i e hi2 (by rw [← hie]; exact List.getElem?_eq_getElem _) h2)
          clear hka2 hsl2 hin HALL
          gi_wp2
          go_end0
          exact .inl ⟨⟨_, rfl⟩, .inl ⟨s2, HE.out, hj2⟩⟩
    · obtain ⟨p, rfl⟩ := mkP_inv hkey
      obtain ⟨q, hq, hqk⟩ := (hhas kl).1 (Maps.has_true_of_atKey hatk)
      have hpq : p = q.1 := by
        have := plKeyed.inj hkey (by rw [← hqk]; exact mkP_key (hok q hq))
        obtain ⟨p1, p2⟩ := p
        obtain ⟨⟨q1, q2⟩, q3⟩ := q
        simpa [Plc.v] using this
      obtain ⟨e, he, rfl⟩ := List.mem_map.1 hq
      have hv0 : v0 = .int .i64 e.1.2.2 := by
        obtain ⟨m, rfl, hm, _⟩ := plainElem_int_inv Tryd.underlying3 hv
        have h1 := hat _ hq (.lit (.int .i64 0))
        rw [hqk, hatk, hm] at h1
        unfold dvI at h1
        injection h1 with h1
        injection h1 with h2 h3
        rw [h3]
      subst hv0 hpq
      have hjw := hJr s wr w' hj hr.lt hgr
      have hmod := hmH e he
      have hsz := (hok _ hq).2
      have HST := fun (s' : List Int) (h1 : against x.1 e.1 = true → e.1.1 ∈ s') (h2 : ∀ z, z ∈ s → z ∈ s') => Lib.hid (show ∀ e' ∈ H, (left (mkP (e'.1.1, e'.1.2.1)) && !(mkP (e'.1.1, e'.1.2.1)).sameKey kl) = false → against x.1 e'.1 = true → e'.1.1 ∈ s' from fun e' he' hl ha => by
        rw [Bool.and_eq_false_iff] at hl
        rcases hl with hl | hl
        · exact h2 _ (hall.out e' he' hl ha)
        · have hkk := WideAt.sameKey_eq (by simpa using hl)
          rw [← hqk] at hkk
          have heq := held_one hnd he' he (mkP_inj (hok _ (List.mem_map.2 ⟨e', he', rfl⟩)) (hok _ hq) hkk)
          rw [heq] at ha ⊢
          exact h1 ha)
      have hag : against x.1 e.1 = (decide (x.1.1 ≠ e.1.1) && touchN x.1.2.1 e.1.2.1 && clashN x.1.2.2 e.1.2.2) := rfl
      have hfor := fun h => forL_held (F := L.take n) (g := x.1) he h
      have hgs := hrg.alloc (.cells #[.int .i64 e.1.1, .string e.1.2.1] 72)
      have hja := hJ s w' _ hjw ((Ext.refl w').alloc (.cells #[.int .i64 e.1.1, .string e.1.2.1] 72))
      have hka := hK _ _ hja
      have kx0 : (w'.alloc (.cells #[.int .i64 e.1.1, .string e.1.2.1] 72)).cell? ⟨c + 1, 0, none⟩ = some (.int .i64 x.1.1) := hka.k2.cell (i := 0) rfl
      have kx1 : (w'.alloc (.cells #[.int .i64 e.1.1, .string e.1.2.1] 72)).cell? ⟨c + 1, 1, none⟩ = some (.string x.1.2.1) := hka.k2.cell (i := 1) rfl
      have kx2 : (w'.alloc (.cells #[.int .i64 e.1.1, .string e.1.2.1] 72)).cell? ⟨c + 1, 2, none⟩ = some (.int .i64 x.1.2.2) := hka.k2.cell (i := 2) rfl
      simp only [Plc.v] at hrun hen
      have HQ := Lib.hid hq
      have HI := Lib.hid (And.intro hqk (And.intro hat hhas))
      have HV := Lib.hid hv
      clear hqk hq hv hhas hat hatk hkey hall hka hr hgr hj
      by_cases hu : e.1.1 = x.1.1
      · have hr1 := HST s (fun h => by rw [hag, decide_eq_false (fun h => h hu.symm)] at h; cases h) (fun z hz => hz)
        have e1 : (e.1.1 != x.1.1) = false := by rw [hu]; simp
        have e2 : (e.1.1 == x.1.1) = true := by rw [hu]; simp
        clear HST hfor hag hu
        gi_wp2_with (first | (refine ⟨trivial, ?_⟩) | (with_reducible refine And.intro (fun _ hf => (by cases hf)) ?_))
        gi_roundg cnt'
        case measure => omega
        case rel => exact ⟨s, _, hja, hgs, hr1, by omega⟩
      · have e1 : (e.1.1 != x.1.1) = true := by simpa using hu
        have e2 : (e.1.1 == x.1.1) = false := by simpa using hu
        have hC := lclash_any e.1.2.2 x.1.2.2 (w'.alloc (.cells #[.int .i64 e.1.1, .string e.1.2.1] 72)) hmod hmx
        cases hcl : clashN e.1.2.2 x.1.2.2 with
        | false =>
          have hr1 := HST s (fun h => by rw [hag, clashN_symm, hcl, Bool.and_false] at h; cases h) (fun z hz => hz)
          rw [hcl] at hC
          clear HST hfor hag hu hcl
          gi_wp2_with (first | (refine ⟨trivial, rfl, ?_⟩; gi_at_call 24; refine (callsIn_wide.2 hC).mono ?_; rintro r5 w5 ⟨rfl, rfl⟩) | (refine ⟨trivial, rfl, ?_⟩; gi_at_call 18; refine (callsIn_wide.2 hT).mono ?_; rintro r6 w6 ⟨rfl, hx6⟩) | (refine ⟨trivial, ?_⟩) | (with_reducible refine And.intro (fun _ hf => (by cases hf)) ?_))
          gi_roundg cnt'
          case measure => omega
          case rel => exact ⟨s, _, hja, hgs, hr1, by omega⟩
        | true =>
          rw [hcl] at hC
          have hT := ltouch_any e.1.2.1 x.1.2.1 (w'.alloc (.cells #[.int .i64 e.1.1, .string e.1.2.1] 72)) hsz hsx
          have kn : (w'.alloc (.cells #[.int .i64 e.1.1, .string e.1.2.1] 72)).cell? ⟨w'.heap.size, 0, none⟩ = some (.int .i64 e.1.1) := (BoxN.new w' 72 #[.int .i64 e.1.1, .string e.1.2.1]).cell (i := 0) rfl
          rw [hszw] at kn
          cases hto : touchN e.1.2.1 x.1.2.1 with
          | false =>
            have hr1 := HST s (fun h => by rw [hag, touchN_symm, hto, Bool.and_false, Bool.false_and] at h; cases h) (fun z hz => hz)
            rw [hto] at hT
            clear HST hfor hag hu hcl hto
            gi_wp2_with (first | (refine ⟨trivial, rfl, ?_⟩; gi_at_call 24; refine (callsIn_wide.2 hC).mono ?_; rintro r5 w5 ⟨rfl, rfl⟩) | (refine ⟨trivial, rfl, ?_⟩; gi_at_call 18; refine (callsIn_wide.2 hT).mono ?_; rintro r6 w6 ⟨rfl, hx6⟩) | (refine ⟨trivial, ?_⟩) | (with_reducible refine And.intro (fun _ hf => (by cases hf)) ?_))
            gi_roundg cnt'
            case measure => omega
            case rel => exact ⟨s, _, hJ _ _ _ hja hx6, ranges_same hgs (hx6.block hgs.owns.lt) (hx6.block hgs.lt), hr1, by omega⟩
          | true =>
            have hagt : against x.1 e.1 = true := by
              have hd : decide (x.1.1 ≠ e.1.1) = true := by simp; exact fun h => hu h.symm
              rw [hag, touchN_symm, hto, clashN_symm, hcl, hd]
              rfl
            have hst := HST (s ++ [e.1.1]) (fun _ => by simp) (fun z hz => List.mem_append_left _ hz)
            obtain ⟨o, ho⟩ : ∃ o, (w'.alloc (.cells #[.int .i64 e.1.1, .string e.1.2.1] 72)).heap[W.heap.size]? = some o := ⟨_, Array.getElem?_eq_getElem hgs.lt⟩
            have hYY := fun A hx => hY s #[.int .i64 e.1.1] (s ++ [e.1.1]) A o (hJ _ _ _ hja hx) ⟨e.1.1, rfl, rfl, hfor hagt, by omega⟩ (Ext.heap hx ho)
            have HO := Lib.hid ho
            rw [hto] at hT
            clear HST hfor hag hu hcl hto hagt ho
            gi_wp2_with (first | (refine ⟨trivial, rfl, ?_⟩; gi_at_call 24; refine (callsIn_wide.2 hC).mono ?_; rintro r5 w5 ⟨rfl, rfl⟩) | (refine ⟨trivial, rfl, ?_⟩; gi_at_call 18; refine (callsIn_wide.2 hT).mono ?_; rintro r6 w6 ⟨rfl, hx6⟩; obtain ⟨fn, tmps, assign, body, hy, hR⟩ := hYY _ hx6; have kn6 := hx6.cell kn) | (refine ⟨trivial, ?_⟩) | (with_reducible refine And.intro (fun _ hf => (by cases hf)) ?_))
            refine ⟨rfl, ?_⟩
            refine hR.mono ?_
            intro e3 W3 h3
            rcases yieldb_cases h3 with ⟨ch, rfl, hp3⟩ | ⟨t, rfl, h4⟩
            · exact ⟨rfl, .inr ⟨ch, rfl, hp3⟩⟩
            · clear h3
              rcases h4 with ⟨rfl, hj3, ho3⟩ | ⟨rfl, hx3⟩
              · have HR3 := Lib.hid (ranges_same hgs ((hK _ _ hj3).om.trans (hK _ _ hja).om.symm) (ho3.trans HO.out.symm))
                gi_wp2
                gi_roundg cnt'
                case measure => omega
                case rel => exact ⟨s ++ [e.1.1], _, hj3, HR3.out, hst, by simp; omega⟩
              · gi_wp2
                refine bodyPost_ret (results_none rfl _ _ _) rfl ?_
                exact .inl ⟨⟨_, rfl⟩, .inr hx3⟩
end
section
open Go.RowKit Go.Maps
set_option linter.unusedVariables false
set_option linter.unusedSimpArgs false
set_option linter.unusedSectionVars false
set_option maxRecDepth 100000
attribute [local go_sem] Oper.semAt_some

/-- requests of a mode and of a name that is not too long -/
def GrOk (g : Gr) : Prop := modeN g.2.2 = true ∧ g.2.1.size ≤ 1000000
structure LkOk (S : LkSt) : Prop where
  h : ∀ e ∈ S.H, GrOk e.1
  l : ∀ e ∈ S.L, GrOk e.1
  hn : S.H.length ≤ 100000
  ln : S.L.length ≤ 100000
  u : ∀ x, hasG S.H x ∨ hasG S.L x → 1 ≤ x.1 ∧ x.1 ≤ 1000
theorem BkK.ext {c b n : Nat} {x : Rq} {om : Obj} {v : Value} {H : HeldL} {L : LineL} {A B : World} (h : BkK c b n x om v H L A) (hx : Ext A B) : BkK c b n x om v H L B :=
  ⟨hx.heap h.k1, h.k2.ext hx, hx.heap h.k3, h.box.ext hx, hx.heap h.om, h.held.ext hx, h.line.ext hx⟩
theorem LockS.bkK {w : World} {F : Nat → Prop} {b : Nat} {v : Value} {S : LkSt} (h : LockS w F b v S) (n : Nat) (x : Rq) : ∃ om, BkK w.heap.size b n x om v S.H S.L (((w.alloc (.cells #[.pointer (some ⟨b + 2, 0, none⟩)] 35)).alloc (.cells (Rq.cells x).toArray 75)).alloc (.cells #[.int .i64 n] 3)) := by
  obtain ⟨om, hom⟩ : ∃ om, w.heap[b]? = some om := ⟨_, Array.getElem?_eq_getElem h.held.lt⟩
  have hx : Ext w (((w.alloc (.cells #[.pointer (some ⟨b + 2, 0, none⟩)] 35)).alloc (.cells (Rq.cells x).toArray 75)).alloc (.cells #[.int .i64 n] 3)) := (((Ext.refl w).alloc _).alloc _).alloc _
  refine ⟨om, ((Boxed.new _ _ _).alloc _).alloc _, ?_, ?_, h.box.ext hx, hx.heap hom, h.held.ext hx, h.line.ext hx⟩
  · have := BoxN.new (w.alloc (.cells #[.pointer (some ⟨b + 2, 0, none⟩)] 35)) 75 (Rq.cells x).toArray
    rw [World.size_alloc] at this
    exact this.ext ((Ext.refl _).alloc _)
  · have := Boxed.new ((w.alloc (.cells #[.pointer (some ⟨b + 2, 0, none⟩)] 35)).alloc (.cells (Rq.cells x).toArray 75)) 3 (.int .i64 n)
    rw [World.size_alloc, World.size_alloc] at this
    exact this
theorem free_end (n : Nat) (W' : World) (tmps : Array Value) (v : Bool) (h4 : tmps.getD 6 undef = .pointer (some ⟨n, 0, none⟩)) (q : W'.cell? ⟨n, 0, none⟩ = some (.bool v)) :
    (results Tryd.f39 tmps).run Tryd.prog W' = .ok (.bool v) W' := by
  have h4' : tmps[6]?.getD undef = .pointer (some ⟨n, 0, none⟩) := by simpa using h4
  simp only [results, Tryd.results39]
  simp [Sem.run_bind, Result.andThen, h4', go_sem, q]
set_option maxHeartbeats 4000000 in
theorem lfree_any (x : Rq) (n : Nat) (w : World) {F : Nat → Prop} {b : Nat} {v : Value} {S : LkSt} (h : LockS w F b v S) (hk : LkOk S) (hn : n ≤ S.L.length) (hx : GrOk x.1) :
    Calls Tryd.prog 39 #[.pointer (some ⟨b + 2, 0, none⟩), x.v, .int .i64 n] w fun e w' => e = .returned (.bool (decide (forL S.H (S.L.take n) x.1 = []))) ∧ Ext w w' := by
  refine calls_of_wpAt Tryd.func39 rfl ?_
  simp only [Tryd.ntmps39, List.size_toArray, List.length_cons, List.length_nil, Nat.reduceAdd, Nat.reduceSub, Array.replicate_succ, Array.replicate_zero, List.push_toArray, List.append_toArray, List.nil_append, List.cons_append]
  obtain ⟨W2, hW2⟩ : ∃ W2, (w.alloc (.cells (Rq.cells x).toArray 75)).alloc (.cells #[.bool false] 4) = W2 := ⟨_, rfl⟩
  have hx2 : Ext w W2 := by rw [← hW2]; exact ((Ext.refl _).alloc _).alloc _
  have hz2 : W2.heap.size = w.heap.size + 2 := by rw [← hW2]; simp only [World.size_alloc]
  have hb2 : Boxed W2 (w.heap.size + 1) 4 (.bool false) := by
    have := Boxed.new (w.alloc (.cells (Rq.cells x).toArray 75)) 4 (.bool false)
    rw [World.size_alloc, hW2] at this
    exact this
  have hB2 : BoxN W2 w.heap.size 75 (Rq.cells x).toArray := by
    rw [← hW2]; exact (BoxN.new w 75 _).ext ((Ext.refl _).alloc _)
  have h2 : LockS W2 F b v S := h.ext hx2
  obtain ⟨om, hK4⟩ := h2.bkK n x
  have hB := lblocked_any b n x W2
  obtain ⟨W5, hW5⟩ : ∃ W5, ((W2.alloc (.cells #[.pointer (some ⟨b + 2, 0, none⟩)] 35)).alloc (.cells (Rq.cells x).toArray 75)).alloc (.cells #[.int .i64 n] 3) = W5 := ⟨_, rfl⟩
  rw [hW5] at hK4 hB
  have hx5 : Ext W2 W5 := by rw [← hW5]; exact (((Ext.refl _).alloc _).alloc _).alloc _
  have hz5 : W5.heap.size = w.heap.size + 5 := by rw [← hW5]; simp only [World.size_alloc]; omega
  rw [hz2] at hK4 hB
  have hseq := blocked_seq (w.heap.size + 2) b n x om v S.H S.L hn (by have := hk.ln; omega) hx.1 hx.2 (fun e he => (hk.h e he).1) hk.l
  refine wpAt_seq_k (fun K hK => ?_)
  have q0 : W2.cell? ⟨w.heap.size, 0, none⟩ = some (.int .i64 x.1.1) := hB2.cell (i := 0) rfl
  have q1 : W2.cell? ⟨w.heap.size, 1, none⟩ = some (.string x.1.2.1) := hB2.cell (i := 1) rfl
  have q2 : W2.cell? ⟨w.heap.size, 2, none⟩ = some (.int .i64 x.1.2.2) := hB2.cell (i := 2) rfl
  have q3 : W2.cell? ⟨w.heap.size, 3, none⟩ = some (.bool x.2) := hB2.cell (i := 3) rfl
  have HS := Lib.hid hseq
  have HK4 := Lib.hid hK4
  have HX5 := Lib.hid hx5
  have HX2 := Lib.hid hx2
  have HB2 := Lib.hid hb2
  have HZ := Lib.hid hz5
  unfold Rq.v at hB ⊢
  unfold Rq.cells at hW2
  clear h2 hseq hx5 hK4 hB2 h hz5
  go_wp2
  refine wpAt_seq ?_
  refine wpAt_seq_k (fun K hK => ?_)
  go_wp2_with (go_at_call 53; refine hB.mono ?_; rintro e w4 ⟨rfl, h4⟩; subst w4)
  refine wpAt_block ?_
  clear q0 q1 q2 q3 hB hx2 hb2
  refine wpAt_rangeFuncM (hf := Tryd.func39) (gf := 70) (lb := #[.pointer (some ⟨w.heap.size + 2, 0, none⟩), .pointer (some ⟨w.heap.size + 2 + 1, 0, none⟩), .pointer (some ⟨w.heap.size + 2 + 2, 0, none⟩)]) rfl (enters_of Tryd.func70 (by kernel_rfl) rfl)
    HS.out (fun s e s' h => by obtain ⟨v, rfl, _⟩ := h; rfl)
    (fun s W => s = [] ∧ Ext W5 W)
    (fun c W => c = .ret ∧ forL S.H (S.L.take n) x.1 ≠ [] ∧ Boxed W (w.heap.size + 1) 4 (.bool false) ∧ Ext w W)
    (fun _ _ => False)
    (fun i A B ⟨h0, h1⟩ hx => ⟨h0, h1.trans hx⟩)
    (fun i A B ⟨h0, h1⟩ _ hx => ⟨h0, Upd.ext h1 hx (by omega)⟩)
    (fun _ A B ⟨h0, h1, h2, h3⟩ hx => ⟨h0, h1, hx.heap h2, h3.trans hx⟩)
    (fun i A r r' ⟨h0, h1⟩ hl => ⟨h0, Upd.ext h1 (grownBy_putObj' _ _ _) (by omega)⟩)
    (fun _ A r r' ⟨h0, h1, h2, h3⟩ _ => ⟨h0, h1, (World.putObj_heap_other (by have := HZ.out; omega)).trans h2, Upd.ext h3 (grownBy_putObj' _ _ _) (by have := HZ.out; omega)⟩)
    (fun i A h => HK4.out.ext h.2)
    ⟨rfl, Ext.refl _⟩ ?round ?done ?stop (fun _ _ h _ => h.elim)
  case stop =>
    rintro c W ⟨rfl, h1, h2, h3⟩ hD
    have hWz := h3.size
    have hZ := HZ.out
    rw [hZ] at hD
    go_wp2
    refine ⟨by simp, .inl ⟨_, _, rfl, run_takeDeferred (by rw [HZ.out]; exact hD), ?_⟩⟩
    exact ⟨_, free_end (w.heap.size + 1) _ _ false rfl (Boxed.cell (t := 4) ((World.putObj_heap_other (by omega)).trans h2)), by rw [decide_eq_false h1], Upd.ext h3 (grownBy_putObj' _ _ _) (by omega)⟩
  case round =>
    rintro s e s' W r ⟨rfl, h1⟩ hW hD hLp ⟨v1, rfl, rfl, hv, _⟩
    gi_wp2
    refine ⟨trivial, trivial, trivial, ?_⟩
    rintro W6 r' hW6
    rw [HZ.out] at hW hD hLp hW6
    have h1' : Ext W5 W6 := by rw [hW6]; exact Upd.ext h1 (grownBy_putObj' _ _ _) (by have := HZ.out; omega)
    have kr : Boxed W6 (w.heap.size + 1) 4 (.bool false) := ((HX5.out.trans h1').heap HB2.out)
    have krc := Boxed.cell kr
    have krf := Boxed.frozen kr
    have KR := Lib.hid kr
    have HW := Lib.hid h1'
    have HV := Lib.hid hv
    clear hW6 hD hLp h1 h1' kr hW
    gi_wp2
    refine ⟨Below.heap_setCell _ _ _ _ (by have := HZ.out; show _ ≠ w.heap.size + 1; omega), Below.heap_setCell _ _ _ _ (by have := HZ.out; show _ ≠ w.heap.size + 1; omega), rfl, ?_, KR.out.set _, ((HX2.out.trans HX5.out).trans HW.out).setCell (by simp) _⟩
    intro h
    have := HV.out
    rw [h] at this
    cases this
  case done =>
    rintro s W hdn ⟨rfl, h1⟩ hD
    have hE : forL S.H (S.L.take n) x.1 = [] := by
      cases hl : forL S.H (S.L.take n) x.1 with
      | nil => rfl
      | cons a l => have := hdn a (by rw [hl]; simp); cases this
    have kr : Boxed W (w.heap.size + 1) 4 (.bool false) := ((HX5.out.trans h1).heap HB2.out)
    have krc := Boxed.cell kr
    have krf := Boxed.frozen kr
    have KR := Lib.hid kr
    have HE := Lib.hid hE
    have HW := Lib.hid h1
    have HD := Lib.hid hD
    have hW5s := h1.size
    clear kr h1 hE hdn hD
    refine wpAt_of_wp ?_
    go_wp2
    refine ⟨by simp, .inl ⟨_, _, rfl, run_takeDeferred ((Below.heap_setCell _ _ _ _ (by have := HZ.out; show _ ≠ w.heap.size + 1; omega)).trans HD.out), ?_⟩⟩
    exact ⟨_, free_end (w.heap.size + 1) _ _ true rfl (Boxed.cell (t := 4) ((World.putObj_heap_other (by have := HZ.out; omega)).trans (KR.out.set _))), by rw [decide_eq_true HE.out], Upd.ext (((HX2.out.trans HX5.out).trans HW.out).setCell (by simp) _) (grownBy_putObj' _ _ _) (by have := HZ.out; omega)⟩
end
section
set_option linter.unusedVariables false
set_option linter.unusedSimpArgs false

theorem key_eq (a b : Gr) : decide ((a.1, a.2.1) = (b.1, b.2.1)) = keyN a b := by
  unfold keyN
  rw [← Bool.decide_and]
  simp [Prod.ext_iff]
theorem key_iff (a b : Gr) : keyN a b = true ↔ (a.1, a.2.1) = (b.1, b.2.1) := by rw [← key_eq, decide_eq_true_eq]
theorem held_any (H : HeldL) (g : Gr) : ((heldA H).any fun e => decide (e.1 = (g.1, g.2.1))) = H.any fun e => keyN e.1 g := by
  unfold heldA
  rw [List.any_map]
  congr 1
  funext e
  exact key_eq e.1 g
theorem insG_perm (H : HeldL) (g : Gr) : (insG H g).Perm ((g, false) :: H) := by
  induction H with
  | nil => exact List.Perm.refl _
  | cons e H ih =>
    unfold insG
    split
    · exact (ih.cons e).trans (List.Perm.swap _ _ _)
    · exact List.Perm.refl _
theorem held_note (H : HeldL) (g : Gr) : heldA (noteG H g) = heldA H := by
  unfold noteG heldA
  split
  · rw [List.map_map]
    refine List.map_congr_left fun e he => ?_
    simp only [Function.comp]
    split <;> rfl
  · rfl
theorem held_set (H : HeldL) (g : Gr) : (putA (heldA H) (g.1, g.2.1) g.2.2).Perm (heldA (setG H g)) := by
  unfold putA setG
  rw [held_any]
  by_cases h : (H.any fun e => keyN e.1 g) = true
  · rw [if_pos h, if_pos h]
    unfold heldA
    rw [List.map_map, List.map_map]
    refine List.Perm.of_eq (List.map_congr_left fun e he => ?_)
    simp only [Function.comp]
    by_cases hk : keyN e.1 g = true
    · rw [if_pos hk, if_pos ((key_iff _ _).1 hk)]
    · rw [if_neg hk, if_neg (fun e' => hk ((key_iff _ _).2 e'))]
  · rw [if_neg h, if_neg h]
    have h1 : (((g, false) :: H).map fun e : Gr × Bool => ((e.1.1, e.1.2.1), e.1.2.2)).Perm (heldA (insG H g)) := ((insG_perm H g).map fun e : Gr × Bool => ((e.1.1, e.1.2.1), e.1.2.2)).symm
    exact (List.perm_append_singleton _ _).trans h1
theorem held_give (H : HeldL) (g : Gr) : (putA (heldA H) (g.1, g.2.1) g.2.2).Perm (heldA (giveG H g)) := by
  unfold giveG
  rw [held_note]
  exact held_set H g
theorem noted_cons (e : Gr × Bool) (H : HeldL) : notedA (e :: H) = if e.2 = true then ((e.1.1, e.1.2.1), true) :: notedA H else notedA H := by
  unfold notedA
  rw [List.filter_cons]
  split <;> rfl
theorem mem_noted {H : HeldL} {x : Plc × Bool} : x ∈ notedA H ↔ ∃ e ∈ H, e.2 = true ∧ x = ((e.1.1, e.1.2.1), true) := by
  unfold notedA
  rw [List.mem_map]
  constructor
  · rintro ⟨e, h, rfl⟩
    obtain ⟨h1, h2⟩ := List.mem_filter.1 h
    exact ⟨e, h1, h2, rfl⟩
  · rintro ⟨e, h1, h2, rfl⟩
    exact ⟨e, List.mem_filter.2 ⟨h1, h2⟩, rfl⟩
theorem noted_map (g : Gr) : ∀ H : HeldL, notedA (H.map fun e => if keyN e.1 g = true then (g, false) else e) = delA (notedA H) (g.1, g.2.1)
  | [] => rfl
  | e :: H => by
    rw [List.map_cons, noted_cons, noted_cons, noted_map g H]
    by_cases hk : keyN e.1 g = true
    · rw [if_pos hk]
      simp only [Bool.false_eq_true, if_false]
      split
      · unfold delA
        rw [List.filter_cons, if_neg]
        simp [(key_iff _ _).1 hk]
      · rfl
    · rw [if_neg hk]
      split
      · unfold delA
        rw [List.filter_cons, if_pos]
        simp only [Bool.not_eq_eq_eq_not, Bool.not_true, decide_eq_false_iff_not]
        exact fun e' => hk ((key_iff _ _).2 e')
      · rfl
theorem noted_set (H : HeldL) (g : Gr) : (delA (notedA H) (g.1, g.2.1)).Perm (notedA (setG H g)) := by
  unfold setG
  by_cases h : (H.any fun e => keyN e.1 g) = true
  · rw [if_pos h, noted_map]
  · rw [if_neg h]
    have h1 : (notedA (insG H g)).Perm (notedA H) := by
      have := ((insG_perm H g).filter fun e => e.2).map fun e : Gr × Bool => ((e.1.1, e.1.2.1), true)
      exact this
    have h2 : delA (notedA H) (g.1, g.2.1) = notedA H := by
      unfold delA
      rw [List.filter_eq_self]
      intro x hx
      obtain ⟨e, he, _, rfl⟩ := mem_noted.1 hx
      simp only [Bool.not_eq_eq_eq_not, Bool.not_true, decide_eq_false_iff_not]
      exact fun e' => h (List.any_eq_true.2 ⟨e, he, (key_iff _ _).2 e'⟩)
    rw [h2]
    exact h1.symm
theorem noted_keys (H : HeldL) (h : ((heldA H).map (·.1)).Nodup) : ((notedA H).map (·.1)).Nodup := by
  refine List.Nodup.sublist (l₂ := (heldA H).map (·.1)) ?_ h
  unfold notedA heldA
  rw [List.map_map, List.map_map]
  exact List.filter_sublist.map _
theorem nodup_of_keys {β : Type} : ∀ {l : List (Plc × β)}, (l.map (·.1)).Nodup → l.Nodup
  | [], _ => List.nodup_nil
  | e :: l, h => by
    rw [List.map_cons, List.nodup_cons] at h
    exact List.nodup_cons.2 ⟨fun hm => h.1 (List.mem_map.2 ⟨e, hm, rfl⟩), nodup_of_keys h.2⟩
theorem perm_of_mem {β : Type} {l m : List (Plc × β)} (hl : (l.map (·.1)).Nodup) (hm : (m.map (·.1)).Nodup) (h : ∀ x, x ∈ l ↔ x ∈ m) : l.Perm m :=
  (List.perm_ext_iff_of_nodup (nodup_of_keys hl) (nodup_of_keys hm)).2 h
/-- who is to notice -/
def condN (g : Gr) (e : Gr × Bool) : Bool := decide (e.1.1 ≠ g.1) && decide (e.1.2.2 = 1) && touchN e.1.2.1 g.2.1
theorem mem_note {H : HeldL} {g : Gr} (h3 : g.2.2 = 3) {x : Plc × Bool} : x ∈ notedA (noteG H g) ↔ ∃ e ∈ H, (e.2 = true ∨ condN g e = true) ∧ x = ((e.1.1, e.1.2.1), true) := by
  unfold noteG
  rw [if_pos h3, mem_noted]
  constructor
  · rintro ⟨e, he, h1, rfl⟩
    obtain ⟨y, hy, rfl⟩ := List.mem_map.1 he
    by_cases hc : condN g y = true
    · refine ⟨y, hy, .inr hc, ?_⟩
      unfold condN at hc
      rw [if_pos hc]
    · have hc' := hc
      unfold condN at hc
      rw [if_neg hc] at h1 ⊢
      exact ⟨y, hy, .inl h1, rfl⟩
  · rintro ⟨e, he, h1, rfl⟩
    by_cases hc : condN g e = true
    · refine ⟨(e.1, true), List.mem_map.2 ⟨e, he, ?_⟩, rfl, rfl⟩
      unfold condN at hc
      rw [if_pos hc]
    · rcases h1 with h1 | h1
      · refine ⟨e, List.mem_map.2 ⟨e, he, ?_⟩, h1, rfl⟩
        unfold condN at hc
        rw [if_neg hc]
      · exact absurd h1 hc
/-- the noted ones, on the way through the held ones: 'left' tells which keys are still to come -/
structure NoteW (H : HeldL) (g : Gr) (left : Lit → Bool) (l : List (Plc × Bool)) : Prop where
  sub : ∀ x ∈ l, x ∈ notedA (noteG H g)
  old : ∀ x ∈ notedA H, x ∈ l
  all : ∀ e ∈ H, left (mkP (e.1.1, e.1.2.1)) = false → condN g e = true → ((e.1.1, e.1.2.1), true) ∈ l
theorem NoteW.first {H : HeldL} {g : Gr} (h3 : g.2.2 = 3) {left : Lit → Bool} {l : List (Plc × Bool)} (hl : l.Perm (notedA H)) (hh : ∀ e ∈ H, left (mkP (e.1.1, e.1.2.1)) = true) : NoteW H g left l :=
  ⟨fun x hx => by
    obtain ⟨e, he, h1, h2⟩ := mem_noted.1 (hl.mem_iff.1 hx)
    exact (mem_note h3).2 ⟨e, he, .inl h1, h2⟩, fun x hx => hl.mem_iff.2 hx, fun e he h _ => by rw [hh e he] at h; cases h⟩
theorem NoteW.done {H : HeldL} {g : Gr} (h3 : g.2.2 = 3) {left : Lit → Bool} {l : List (Plc × Bool)} (h : NoteW H g left l) (hn : (l.map (·.1)).Nodup) (hH : ((heldA H).map (·.1)).Nodup) (hz : ∀ kl, left kl = false) : l.Perm (notedA (noteG H g)) :=
  perm_of_mem hn (noted_keys _ (by rw [held_note]; exact hH)) fun x => ⟨h.sub x, fun hx => by
    obtain ⟨e, he, h1, rfl⟩ := (mem_note h3).1 hx
    rcases h1 with h1 | h1
    · exact h.old _ (mem_noted.2 ⟨e, he, h1, rfl⟩)
    · exact h.all e he (hz _) h1⟩
theorem NoteW.skip {H : HeldL} {g : Gr} {left left' : Lit → Bool} {l : List (Plc × Bool)} (h : NoteW H g left l) {e : Gr × Bool} (hc : condN g e = false) (hl : ∀ e' ∈ H, left' (mkP (e'.1.1, e'.1.2.1)) = false → left (mkP (e'.1.1, e'.1.2.1)) = false ∨ e' = e) : NoteW H g left' l :=
  ⟨h.sub, h.old, fun e' he' h1 h2 => by
    rcases hl e' he' h1 with h3 | rfl
    · exact h.all e' he' h3 h2
    · rw [hc] at h2; cases h2⟩
theorem NoteW.put {H : HeldL} {g : Gr} (h3 : g.2.2 = 3) {left left' : Lit → Bool} {l : List (Plc × Bool)} (h : NoteW H g left l) {e : Gr × Bool} (he : e ∈ H) (hc : condN g e = true) (hl : ∀ e' ∈ H, left' (mkP (e'.1.1, e'.1.2.1)) = false → left (mkP (e'.1.1, e'.1.2.1)) = false ∨ e' = e) : NoteW H g left' (putA l (e.1.1, e.1.2.1) true) :=
  ⟨fun x hx => by
    rcases mem_putA.1 hx with rfl | ⟨h1, _⟩
    · exact (mem_note h3).2 ⟨e, he, .inr hc, rfl⟩
    · exact h.sub x h1, fun x hx => by
    rw [mem_putA]
    by_cases hk : x.1 = (e.1.1, e.1.2.1)
    · obtain ⟨y, _, _, rfl⟩ := mem_noted.1 hx
      exact .inl (by simp only at hk; rw [hk])
    · exact .inr ⟨h.old x hx, hk⟩, fun e' he' h1 h2 => by
    rw [mem_putA]
    by_cases hk : (e'.1.1, e'.1.2.1) = (e.1.1, e.1.2.1)
    · exact .inl (by rw [hk])
    · rcases hl e' he' h1 with h4 | rfl
      · exact .inr ⟨h.all e' he' h4 h2, hk⟩
      · exact absurd rfl hk⟩
theorem putA_len {β : Type} (l : List (Plc × β)) (k : Plc) (v : β) : (putA l k v).length ≤ l.length + 1 := by
  unfold putA
  split <;> simp
end
end Go.Proofs.YtaciedooeeklpaaDoor
