/- PcI; PcO (merged by group.py) -/
import Derived.Test.YtcbainmpikcfjaaQ13
import Derived.Maps.OwnIn
import Derived.Test.YtcbainmpikcfjaaQ11
import Derived.Test.YtcbainmpikcfjaaQ10
import Derived.Maps.AppendAt
namespace Go.Proofs.Ytcbainmpikcfjaa
section
open Go.RowKit Go.Maps
set_option linter.unusedVariables false
set_option linter.unusedSimpArgs false
set_option linter.unusedSectionVars false
set_option maxRecDepth 20000
attribute [local go_sem] Oper.semAt_some

theorem OwnG.kept {α : Type} {cs : α → List Value} {e : TypeId} {k : Nat} {w w' : World} {base : Nat} {v : Value} {l : List α} {row : Option Nat} (h : OwnG cs e k w base v l) (hg : w.grownBy w' row) (hne : v.ownBlock = none ∨ v.ownBlock ≠ row) : OwnG cs e k w' base v l := World.ownsRow.kept h hg hne
theorem OwnG.not_loop {α : Type} {cs : α → List Value} {e : TypeId} {k : Nat} {w : World} {base : Nat} {v : Value} {l : List α} (h : OwnG cs e k w base v l) {S : Nat} {o : Obj} (hS : w.heap[S]? = some o) (ho : ∀ c, o ≠ .cells c e (0, 0)) : v.ownBlock = none ∨ v.ownBlock ≠ some S := by
  rcases h.2 with ⟨rfl, _⟩ | ⟨g, cap, cur, rfl, _, hg, _⟩
  · exact .inl rfl
  · refine .inr fun e => ?_
    simp only [Value.ownBlock, Option.some.injEq] at e
    subst e
    rw [hS] at hg
    injection hg with hg
    exact ho _ hg
theorem OwnG.loop {α : Type} {cs : α → List Value} {e : TypeId} {k : Nat} {w : World} {base : Nat} {v : Value} {l : List α} (h : OwnG cs e k w base v l) {S : Nat} {r r' : Loop} (hS : w.heap[S]? = some (.loop r)) : OwnG cs e k (w.putObj S (.loop r')) base v l :=
  h.kept (grownBy_putObj' _ _ _) (h.not_loop hS (fun c e => by cases e))
theorem OwnG.down {α : Type} {cs : α → List Value} {e : TypeId} {k : Nat} {w : World} {base b' : Nat} {v : Value} {l : List α} (h : OwnG cs e k w base v l) (hb : b' ≤ base) : OwnG cs e k w b' v l := by
  refine ⟨h.1, ?_⟩
  rcases h.2 with h0 | ⟨g, cap, cur, h1, h2, h3⟩
  · exact .inl h0
  · exact .inr ⟨g, cap, cur, h1, Nat.le_trans hb h2, h3⟩
theorem Boxed.kept {w w' : World} {b : Nat} {T : TypeId} {v : Value} {row : Option Nat} (h : Boxed w b T v) (hg : w.grownBy w' row) (hne : row ≠ some b) : Boxed w' b T v := by
  have hl : b < w.heap.size := (Array.getElem?_eq_some_iff.1 h).1
  exact (hg.block b hl (fun e => hne e.symm)).trans h
def adsL (ads : Nat → Adr) (i : Nat) : List Adr := (List.range i).map ads
theorem adsL_succ (ads : Nat → Adr) (i : Nat) : adsL ads (i + 1) = adsL ads i ++ [ads i] := by simp [adsL, List.range_succ]
theorem adsL_len (ads : Nat → Adr) (i : Nat) : (adsL ads i).length = i := by simp [adsL]
theorem addr_zero : ∃ i, Try.prog.info? 38 = some i ∧ i.zero = some (.agg #[.int .i64 0, .int .i64 0]) ∧ i.size = 2 ∧ i.bytes = 16 := by
  have h : (Try.prog.info? 38).map (fun i => (i.zero, i.size, i.bytes)) = some (some (.agg #[.int .i64 0, .int .i64 0]), 2, 16) := by kernel_rfl
  cases hq : Try.prog.info? 38 with
  | none => simp [hq] at h
  | some i => simp [hq] at h; exact ⟨i, rfl, h.1, h.2.1, h.2.2⟩
set_option maxHeartbeats 4000000 in
theorem fragments8_yes {w : World} {h A g M size most cap : Nat} {l : List ByteArray} {lv : List UInt8} {mp : List (Int × Adr)} (H : Hp w h A g M size most cap l lv mp) {k : Int} {all : Nat} {parts : List ByteArray} {ads : Nat → Adr} (hr : RecAt size l k all parts ads) (hm : hasI mp k = true) (ha : atI mp k = ads 0) :
    Calls Try.prog 10 #[.pointer (some ⟨h, 0, none⟩), .int .i64 k] w fun e w' => (∃ v, e = .returned (.tuple #[v, .int .i64 0]) ∧ OwnAd w' w.heap.size v (adsL ads parts.length)) ∧ Ext w w' := by
  have hA := asked8_any H k
  rw [askF_zero hr.key hm] at hA
  refine calls_of_wpAt Try.func10 rfl ?_
  simp only [Try.ntmps10, List.size_toArray, List.length_cons, List.length_nil, Nat.reduceAdd, Nat.reduceSub, Array.replicate_succ, Array.replicate_zero, List.push_toArray, List.append_toArray, List.nil_append, List.cons_append]
  have hlen := hr.len
  refine wpAt_seq_k (fun K hK' => ?_)
  go_wp2
  refine wpAt_seq_k (fun K hK' => ?_)
  go_wp2_with (go_at_call 20; refine hA.mono ?_; rintro e wa ⟨rfl, hxa⟩)
  refine wpAt_seq_k (fun K hK' => ?_)
  go_wp2
  obtain ⟨c, hcc⟩ : ∃ c, wa.heap.size = c := ⟨_, rfl⟩
  obtain ⟨W0, hW0⟩ : ∃ W0, wa.alloc (.cells #[.slice none 0 0] 34) = W0 := ⟨_, rfl⟩
  have hx0 : Ext w W0 := hW0 ▸ hxa.alloc _
  have hs0 : W0.heap.size = c + 1 := by rw [← hW0, ← hcc]; simp
  have hb0 : Boxed W0 c 34 (.slice none 0 0) := by rw [← hW0, ← hcc]; exact Boxed.new _ _ _
  have hwc : w.heap.size ≤ c := by rw [← hcc]; exact hxa.size
  try rw [hW0]
  try rw [hcc]
  clear hW0
  refine wpAt_seq ?_
  refine wpAt_seq_k (fun K hK' => ?_)
  go_wp2_with (go_at_call 22; refine (frags_any h k _).mono ?_; rintro e w1 ⟨rfl, e1, e2, hx1, hs1⟩)
  have hx1' := hx0.trans hx1
  have hb1 := hx1.heap hb0
  rw [hs0] at e1 e2 hs1
  clear hcc
  refine wpAt_block ?_
  refine wpAt_rangeFuncW (hf := Try.func10) (gf := 31) (lb := #[.pointer (some ⟨c + 1, 0, none⟩), .pointer (some ⟨c + 1 + 1, 0, none⟩)]) rfl (enters_of Try.func31 (by kernel_rfl) rfl)
    (frag_seq (c + 1) (c + 1 + 1) h A g M size most cap l lv mp k all parts ads hr hm ha) (fun s e s' hR => by obtain ⟨_, _, rfl⟩ := hR; rfl)
    (fun S i W => i ≤ parts.length ∧ (∃ v, Boxed W c 34 v ∧ OwnAd W (c + 3) v (adsL ads i) ∧ ∀ b, v.ownBlock = some b → ¬ S b) ∧ Boxed W (c + 1) 28 (.pointer (some ⟨h, 0, none⟩)) ∧ Boxed W (c + 1 + 1) 3 (.int .i64 k) ∧ Ext w W ∧ ∀ x, S x → c + 3 ≤ x)
    (fun _ _ => False) (fun _ _ => False)
    (fun S i A B ⟨h0, ⟨v, h1, h6, h7⟩, h2, h3, h4, h5⟩ hx => ⟨h0, ⟨v, hx.heap h1, h6.ext hx, h7⟩, hx.heap h2, hx.heap h3, h4.trans hx, h5⟩)
    (fun S T i A ⟨h0, ⟨v, h1, h6, h7⟩, h2, h3, h4, h5⟩ hT => ⟨h0, ⟨v, h1, h6, fun b hb hTb => by
      rcases hT b hTb with h8 | h8
      · exact h7 b hb h8
      · have := (h6.lt b hb).2
        omega⟩, h2, h3, h4, fun x hx => by
      have := h3.lt
      rcases hT x hx with h6 | h6
      · exact h5 x h6
      · omega⟩)
    (fun S i A B ⟨h0, ⟨v, h1, h6, h7⟩, h2, h3, h4, h5⟩ hx => ⟨h0, ⟨v, hx.heap h1 (fun e => by have := h5 _ e; omega), h6.upd hx h7, h7⟩, hx.heap h2 (fun e => by have := h5 _ e; omega), hx.heap h3 (fun e => by have := h5 _ e; omega), hx.ext h4 (fun x hS => by have := h5 x hS; omega), h5⟩)
    (fun _ _ _ h _ => h)
    (fun S i A r r' ⟨h0, ⟨v, h1, h6, h7⟩, h2, h3, h4, h5⟩ hl => ⟨h0, ⟨v, (World.putObj_heap_other (by omega)).trans h1, h6.loop hl, h7⟩, (World.putObj_heap_other (by omega)).trans h2, (World.putObj_heap_other (by omega)).trans h3, Upd.ext h4 (grownBy_putObj' _ _ _) (by omega), h5⟩)
    (fun _ _ _ _ h _ => h)
    (fun S i A ⟨h0, h1, h2, h3, h4, h5⟩ => ⟨h2, h3, H.ext h4⟩)
    ⟨Nat.zero_le _, ⟨_, hb1, OwnG.nil _ _ _ _ _, fun b hb => by simp [Value.ownBlock] at hb⟩, e1, e2, hx1', fun x hx => hx.elim⟩ ?round ?done (fun _ _ h _ => h.elim) (fun _ _ h _ => h.elim)
  case round =>
    rintro S i e i' W r ⟨h0, ⟨v, h1, h6, h7⟩, h2, h3, h4, h5⟩ hSg hW hD hL ⟨hlt, rfl, rfl⟩
    simp only [adV]
    have HA := Lib.hid (adsL_succ ads i)
    have HZ := Lib.hid h5
    have HS := Lib.hid hSg
    have HB := Lib.hid h7
    have HL := Lib.hid (adsL_len ads i)
    clear hSg h7
    obtain ⟨x, hxx⟩ : ∃ x, (ads i).1 = x := ⟨_, rfl⟩
    obtain ⟨y, hyy⟩ : ∃ y, (ads i).2 = y := ⟨_, rfl⟩
    have HXY := Lib.hid (show ads i = (x, y) from by rw [← hxx, ← hyy])
    simp only [hxx, hyy]
    clear hxx hyy
    generalize frW k all i (ads (i + 1)) (parts.getD i ⟨#[]⟩) = fv at *
    gi_wp2
    refine ⟨?_, ?_, by simp, ?_, ?_⟩
    · exact Below.heap_alloc _ _ _ (by omega)
    · exact Below.heap_alloc _ _ _ (by omega)
    · exact fun x _ hlt => Below.heap_alloc _ _ _ hlt
    rintro W5 r' hW5
    have hbx : BoxN W5 W.heap.size 38 #[.int .i64 x, .int .i64 y] := by
      rw [hW5]
      exact (World.putObj_heap_other (by omega)).trans (BoxN.new W _ _)
    have hz5 : W5.heap.size = W.heap.size + 1 := by rw [hW5]; simp
    have hx4 := (Ext.refl W).alloc (.cells #[.int .i64 x, .int .i64 y] 38)
    have hL5 : W5.heap[w1.heap.size + 1]? = some (.loop r') := by rw [hW5]; exact World.putObj_heap_same (by simp; omega)
    have hD5 : W5.heap[w1.heap.size]? = some (.deferred (some [])) := by rw [hW5, World.putObj_heap_other (by omega)]; exact hx4.heap hD
    replace h6 : OwnAd W5 (c + 3) v (adsL ads i) := hW5 ▸ (h6.ext hx4).loop (hx4.heap hL)
    replace h1 : Boxed W5 c 34 v := by rw [hW5]; exact (World.putObj_heap_other (by omega)).trans (hx4.heap h1)
    replace h2 : Boxed W5 (c + 1) 28 (.pointer (some ⟨h, 0, none⟩)) := by rw [hW5]; exact (World.putObj_heap_other (by omega)).trans (hx4.heap h2)
    replace h3 : Boxed W5 (c + 1 + 1) 3 (.int .i64 k) := by rw [hW5]; exact (World.putObj_heap_other (by omega)).trans (hx4.heap h3)
    replace h4 : Ext w W5 := by rw [hW5]; exact Upd.ext (h4.trans hx4) (grownBy_putObj' _ _ _) (by omega)
    have c1 := h1.cell
    have d1 := hbx.cell (i := 0) rfl
    have d2 := hbx.cell (i := 1) rfl
    obtain ⟨i0, hi0, hz0, hz1, hz2⟩ := addr_zero
    have hn1 := h6.not_loop hL5 (fun c e => by cases e)
    have hn2 := h6.not_loop hD5 (fun c e => by cases e)
    have hDs : w1.heap.size < W5.heap.size := (Array.getElem?_eq_some_iff.1 hD5).1
    have hLs : w1.heap.size + 1 < W5.heap.size := (Array.getElem?_eq_some_iff.1 hL5).1
    have hrow : (W5.alloc (.cells #[.int .i64 x, .int .i64 y] 38)).ownsRow (c + 3) 38 2 v (adsL ads i).length ((adsL ads i).flatMap csAd) := h6.ext ((Ext.refl W5).alloc _)
    have HZ5 := Lib.hid hz5
    clear hW5 hx4 hz5
    gi_wp2_with (gi_at_builtin; refine wpListIn_append_own_at _ rfl _ _ 34 rfl (c + 3) 38 i0 (.agg #[.int .i64 0, .int .i64 0]) 2 16 Try.underlying34 hi0 hz0 hz1 hz2 rfl (by decide) _ _ _ rfl hrow ⟨W5.heap.size, 0, none⟩ 1 1 [.int .i64 x, .int .i64 y] rfl rfl ?s0 ?s1 ?s2 ?s3 ?s4 ?_)
    case s0 =>
      intro j u hj
      rw [add_flat, Nat.zero_add]
      exact BoxN.cell (BoxN.new W5 38 #[.int .i64 x, .int .i64 y]) (by simpa using hj)
    case s1 =>
      intro u hu
      simp at hu
      rcases hu with rfl | rfl <;> rfl
    case s2 => have := HL.out; unfold maxLen; omega
    case s3 => have := HL.out; omega
    case s4 => have := HZ5.out; simp; omega
    intro v' w6 hown' hg6 _ hob
    have hn3 : v.ownBlock ≠ some c := fun e => by have := h6.base_ c e; omega
    have hb6 : Boxed w6 c 34 v := (h1.alloc _).kept hg6 (fun e => hn3 e.symm)
    have hc6 := hb6.cell
    have hf6 := hb6.frozen
    have hD6 : w6.heap[w1.heap.size]? = some (.deferred (some [])) := (hg6.block _ (by simp; omega) (fun e => by rcases hn2 with h | h <;> rw [← e] at h; cases h; exact h rfl)).trans ((Below.heap_alloc _ _ _ hDs).trans hD5)
    have hL6 : w6.heap[w1.heap.size + 1]? = some (.loop r') := (hg6.block _ (by simp; omega) (fun e => by rcases hn1 with h | h <;> rw [← e] at h; cases h; exact h rfl)).trans ((Below.heap_alloc _ _ _ hLs).trans hL5)
    have hS6 : ∀ x, S x → x < W5.heap.size → w6.heap[x]? = W5.heap[x]? := fun x hx hlt => (hg6.block _ (by simp; omega) (fun e => HB.out x e.symm hx)).trans (Below.heap_alloc _ _ _ hlt)
    have hbl : Below (c + 3) W5 w6 := (Below.alloc (Below.refl _ W5) (by have := HZ5.out; omega) _).trans (Below.grown (Below.refl _ _) hg6 (by have := HZ5.out; simp; omega) (fun k hk => h6.base_ k hk))
    have h46 : Ext w w6 := below_ext h4 hbl (by omega)
    have h26 : Boxed w6 (c + 1) 28 (.pointer (some ⟨h, 0, none⟩)) := (h2.alloc _).kept hg6 (fun e => by have := h6.base_ _ e.symm; omega)
    have h36 : Boxed w6 (c + 1 + 1) 3 (.int .i64 k) := (h3.alloc _).kept hg6 (fun e => by have := h6.base_ _ e.symm; omega)
    have hcs : c < w6.heap.size := hb6.lt
    have h7 : ∀ b, v'.ownBlock = some b → ¬ S b := by
      intro b hb
      rcases hob with e | e
      · exact HB.out b (by rw [← e]; exact hb)
      · rw [hb] at e
        injection e with e
        have h8 := HZ5.out
        try simp only [World.size_alloc] at e
        intro hSb
        have := (HS.out b hSb).2
        omega
    have h0' : OwnAd w6 (c + 3) v' (adsL ads i ++ [(x, y)]) := by
      unfold OwnAd OwnG
      rw [List.length_append, List.flatMap_append]
      exact hown'
    obtain ⟨g', cap', rfl, _⟩ := h0'.tight (by simp)
    have HH := Lib.hid h0'
    have HLT := Lib.hid hlt
    clear h0' hown' hrow hlt
    gi_wp2
    refine ⟨?_, ?_, ?_, by have := HLT.out; omega, ⟨_, hb6.set _, ?_, h7⟩, h26.other (by simp) _, h36.other (by simp; omega) _, h46.setCell (by simp; omega) _, HZ.out⟩
    · exact (Below.heap_setCell _ _ _ _ (by simp; omega)).trans (hD6.trans hD5.symm)
    · exact (Below.heap_setCell _ _ _ _ (by simp; omega)).trans (hL6.trans hL5.symm)
    · exact fun x hx hlt => (Below.heap_setCell _ _ _ _ (by have := HS.out x hx; simp; omega)).trans (hS6 x hx hlt)
    · have h8 := HH.out
      rw [HA.out, HXY.out]
      refine OwnG.kept (row := some c) ?_ (Upd.setCell w6 c 0 _) (.inr (fun e => by have := h8.base_ c e; omega))
      have hlen2 : (adsL ads i ++ [(x, y)]).length = (adsL ads i).length + 1 := by simp
      rw [hlen2] at h8
      exact h8
  case done =>
    rintro S i W rfl ⟨h0, ⟨v, h1, h6, h7⟩, h2, h3, h4, h5⟩ hD
    rw [hs1] at hD
    refine wpAt_of_wp ?_
    have hc := h1.cell
    have hn1 := h6.not_loop hD (fun c e => by cases e)
    have hO := OwnG.down (base := c + 3) (b' := w.heap.size) (h6.kept (row := some (c + 3)) (grownBy_putObj' W (c + 3) (.deferred none)) hn1) (by omega)
    have hxW : Ext w (W.putObj (c + 3) (.deferred none)) := Upd.ext h4 (grownBy_putObj' _ _ _) (by omega)
    go_wp2
    refine ⟨by simp, .inl ⟨_, _, rfl, run_takeDeferred hD, ?_⟩⟩
    exact ⟨.tuple #[v, .int .i64 0], by simp [results, Try.results10, go_sem], ⟨v, rfl, hO⟩, hxW⟩
end
section
open Go.RowKit
set_option linter.unusedVariables false
set_option linter.unusedSimpArgs false
set_option linter.unusedSectionVars false
set_option maxRecDepth 100000

/-- a list's block is none of F (where it has elements) -/
def Off {α : Type} (F : Nat → Prop) (P : Option Addr) (l : List α) : Prop := l ≠ [] → ∀ b off, P = some ⟨b, off, none⟩ → ¬ F b
theorem Off.mono {α : Type} {F G : Nat → Prop} {P : Option Addr} {l : List α} (h : Off F P l) (hg : ∀ i, G i → F i) : Off G P l := fun hl b off e hb => h hl b off e (hg b hb)
theorem SlG.upd {α : Type} {cs : α → List Value} {F : Nat → Prop} {a b : World} {P : Option Addr} {c : Nat} {l : List α} (h : SlG cs a P c l) (hu : UpdF F a b) (hf : Off F P l) : SlG cs b P c l := by
  refine ⟨fun i x hi => ?_, h.le, h.cap⟩
  obtain ⟨g, off, e, h1⟩ := h.at_ i x hi
  have hne : l ≠ [] := fun e2 => by rw [e2] at hi; simp at hi
  exact ⟨g, off, e, fun j v hj => hu.cell (h1 j v hj) (hf hne g off e)⟩
theorem SlG.lt {α : Type} {cs : α → List Value} {w : World} {P : Option Addr} {c : Nat} {l : List α} (hk : ∀ x, 0 < (cs x).length) (h : SlG cs w P c l) : Off (fun i => w.heap.size ≤ i) P l := by
  intro hne b off e hb
  cases l with
  | nil => exact hne rfl
  | cons x l =>
    obtain ⟨g, o, e2, h1⟩ := h.at_ 0 x rfl
    rw [e] at e2
    injection e2 with e2
    injection e2 with e3 e4
    subst e3
    have := h1 0 _ (List.getElem?_eq_getElem (hk x))
    have := block_lt this
    simp only at this
    omega
theorem Off.or {α : Type} {F G : Nat → Prop} {P : Option Addr} {l : List α} (h : Off F P l) (k : Off G P l) : Off (fun i => F i ∨ G i) P l := fun hl b off e hb => by
  rcases hb with h1 | h1
  · exact h hl b off e h1
  · exact k hl b off e h1
theorem own_lt {α : Type} {cs : α → List Value} {e : TypeId} {k : Nat} {w : World} {base : Nat} {v : Value} {l : List α} (h : OwnG cs e k w base v l) {g : Nat} (hg : v.ownBlock = some g) : base ≤ g ∧ g < w.heap.size := by
  rcases h.2 with ⟨h0, _⟩ | ⟨g', cap, cur, hv, hb, hc, rest⟩
  · rw [h0] at hg; cases hg
  · rw [hv] at hg
    injection hg with hg
    subst hg
    exact ⟨hb, (Array.getElem?_eq_some_iff.1 hc).1⟩
section
variable {α : Type} {cs : α → List Value} {t e : TypeId} {k bytes : Nat} {w : World} {base : Nat}
theorem OwnG.append2 (E : ElemG cs t e k bytes) (ty : TypeId) {v : Value} {l m : List α} (h : OwnG cs e k w base v l) {P : Option Addr} {c : Nat} (hm : SlG cs w P c m) (hP : P = none → c = 0) (hle : (l.length + m.length) * bytes ≤ 140737488355328) (hlb : l.length + m.length ≤ 9223372036854775807) (hbase : base ≤ w.heap.size) :
    ∃ v' w', (Builtin.append_ #[t, t] ty #[v, .slice P m.length c]).run Try.prog w = .ok v' w' ∧ OwnG cs e k w' base v' (l ++ m) ∧ w.grownBy w' v.ownBlock ∧ Below base w w' ∧ (v'.ownBlock = v.ownBlock ∨ v'.ownBlock = some w.heap.size) := by
  have hbel : ∀ w', w.grownBy w' v.ownBlock → Below base w w' := fun w' hg => Below.grown (Below.refl _ _) hg hbase (fun g hg => h.base_ g hg)
  obtain ⟨i, z, hi, hz, hs, hby, hzs⟩ := E.info
  cases P with
  | none =>
    obtain rfl := hP rfl
    obtain rfl : m = [] := List.length_eq_zero_iff.1 (by have := hm.le; omega)
    refine ⟨v, w, run_append_owned_none w base t ty e i k E.ht hi v _ _ h, by rw [List.append_nil]; exact h, ⟨rfl, rfl, rfl, Nat.le_refl _, fun _ _ _ => rfl⟩, Below.refl _ _, .inl rfl⟩
  | some ad =>
    have hn : ∀ j u, (m.flatMap cs)[j]? = some u → w.cell? (ad.add j) = some u := by
      cases m with
      | nil => intro j u hj; simp at hj
      | cons y m =>
        obtain ⟨b, off, e, _⟩ := hm.at_ 0 y rfl
        injection e with e
        subst e
        exact hm.flat E.hk
    obtain ⟨v', w', hr, ho, hg, _, hob⟩ := run_append_own_at w base t ty e i z k bytes E.ht hi hz hs hby hzs E.k0 v l.length _ h ad m.length c (m.flatMap cs) (flat_len E.hk m) hn (fun u hu => by
      obtain ⟨x, _, hx⟩ := List.mem_flatMap.1 hu
      exact E.one x u hx) (by unfold maxLen; omega) hle hbase
    refine ⟨v', w', hr, ?_, hg, hbel _ hg, hob⟩
    unfold OwnG
    rw [List.length_append, List.flatMap_append]
    exact ho
variable {ops : Array Oper} {rest : List Oper} {o : Oper} {a : Act} {Q : Exit → Act → World → Prop}
/-- append(s, x...) for the walk, with what has changed -/
theorem wpList_app_U (w : World) (E : ElemG cs t e k bytes) (hgd : o.guard = none) (s x : Operand) (ho : o.op = .call { callee := .builtin .append, args := #[s, x], argTypes := #[t, t] }) {v : Value} {l : List α} (hs : a.eval s = v) (h : OwnG cs e k w base v l)
    {P : Option Addr} {c : Nat} {m : List α} (hx : a.eval x = .slice P m.length c) (hm : SlG cs w P c m) (hP : P = none → c = 0) (hle : (l.length + m.length) * bytes ≤ 140737488355328) (hlb : l.length + m.length ≤ 9223372036854775807) (hbase : base ≤ w.heap.size)
    (hn : ∀ v' w', OwnG cs e k w' base v' (l ++ m) → w.grownBy w' v.ownBlock → Below base w w' → (v'.ownBlock = v.ownBlock ∨ v'.ownBlock = some w.heap.size) → wpList Try.prog ops Q rest (a.put o.dst v') w') : wpList Try.prog ops Q (o :: rest) a w := by
  obtain ⟨v', w', hr, ho', hg, hb, hob⟩ := h.append2 E o.type hm hP hle hlb hbase
  exact Lib.wpList_append_run _ hgd s x _ _ ho _ _ hs hx _ _ hr (hn _ _ ho' hg hb hob)
end
theorem wpAppU_step {α : Type} {cs : α → List Value} {t e : TypeId} {k bytes : Nat} {w : World} {base : Nat} {ops : Array Oper} {o : Oper} {a : Act} {K : Act → World → Prop} {Q : Exit → Act → World → Prop}
    (E : ElemG cs t e k bytes) (s x : Operand) (ho : o.op = .call { callee := .builtin .append, args := #[s, x], argTypes := #[t, t] }) {v : Value} {l m : List α} (hs : a.eval s = v) (h : OwnG cs e k w base v l)
    {P : Option Addr} {c : Nat} (hx : a.eval x = .slice P m.length c) (hm : SlG cs w P c m) (hP : P = none → c = 0) (hle : (l.length + m.length) * bytes ≤ 140737488355328) (hlb : l.length + m.length ≤ 9223372036854775807) (hbase : base ≤ w.heap.size)
    (hn : ∀ v' w', OwnG cs e k w' base v' (l ++ m) → w.grownBy w' v.ownBlock → Below base w w' → (v'.ownBlock = v.ownBlock ∨ v'.ownBlock = some w.heap.size) → K (a.put o.dst v') w') : o.wp Try.prog a w K Q := by
  obtain ⟨v', w', hr, ho', hg, hb, hob⟩ := h.append2 E o.type hm hP hle hlb hbase
  exact wp_append_at s x t ho v _ hs hx hr (hn _ _ ho' hg hb hob)
end
end Go.Proofs.Ytcbainmpikcfjaa
