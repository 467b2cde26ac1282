/- ItZF; ItZG (merged by group.py) -/
import Derived.Test.YtepgpejdnlejnaaDoorQ21
namespace Go.Proofs.YtepgpejdnlejnaaDoor
section
open Go.RowKit
set_option linter.unusedVariables false
set_option linter.unusedSimpArgs false
set_option linter.unusedSectionVars false
set_option maxRecDepth 100000
attribute [local go_sem] Oper.semAt_some

theorem splitseq_any (s : ByteArray) (w : World) :
    Calls Tryd.prog 84 #[.string s, .string ⟨#[59, 32]⟩] w fun e w' => e = .returned (.func (.func 118) #[] #[.pointer (some ⟨w.heap.size + 1, 0, none⟩), .pointer (some ⟨w.heap.size, 0, none⟩), .pointer (some ⟨w.heap.size + 2, 0, none⟩)]) ∧
      w' = ((w.alloc (.cells #[.string s] 9)).alloc (.cells #[.string ⟨#[59, 32]⟩] 9)).alloc (.cells #[.int .i64 0] 3) := by
  have hmf : ∀ (fn : Fn) (first cap : Array Value) (w : World), (Instr.makeFunc fn first cap).run Tryd.prog w = .ok (.func fn first cap) w := fun _ _ _ _ => rfl
  have hI : Calls Tryd.prog 108 #[.string s, .string ⟨#[59, 32]⟩, .int .i64 0] w fun e w' => e = .returned (.func (.func 118) #[] #[.pointer (some ⟨w.heap.size + 1, 0, none⟩), .pointer (some ⟨w.heap.size, 0, none⟩), .pointer (some ⟨w.heap.size + 2, 0, none⟩)]) ∧
      w' = ((w.alloc (.cells #[.string s] 9)).alloc (.cells #[.string ⟨#[59, 32]⟩] 9)).alloc (.cells #[.int .i64 0] 3) := by
    go_enter Tryd.func108, Tryd.ntmps108
    go_wp2
    go_ret
    exact ⟨rfl, rfl⟩
  go_enter Tryd.func84, Tryd.ntmps84
  go_wp2_with (go_at_call 108; refine hI.mono ?_; rintro e w1 ⟨rfl, rfl⟩)
  go_ret
  exact ⟨rfl, rfl⟩
/-- what the iterator reads beside its own cell -/
def SepK (c : Nat) (A : World) : Prop := A.cell? ⟨c + 1, 0, none⟩ = some (.string ⟨#[59, 32]⟩) ∧ A.cell? ⟨c + 2, 0, none⟩ = some (.int .i64 0) ∧ ∃ m, A.cell? ⟨2, 0, none⟩ = some (.int .i64 m)
theorem box_cell {W : World} {c : Nat} {v : Value} {t : TypeId} (h : W.heap[c]? = some (.cells #[v] t (0, 0))) : W.cell? ⟨c, 0, none⟩ = some v := by simp [World.cell?, h]
theorem box_frozen {W : World} {c : Nat} {v : Value} {t : TypeId} (h : W.heap[c]? = some (.cells #[v] t (0, 0))) : W.frozen? ⟨c, 0, none⟩ = false := by simp [World.frozen?, h]
theorem yieldb_cases {e : Ending} {A B : Prop} {C : List PanicEntry → Prop} (h : (e = .returned (.bool true) ∧ A) ∨ (e = .returned (.bool false) ∧ B) ∨ ∃ ch, e = .panicked ch ∧ C ch) :
    (∃ ch, e = .panicked ch ∧ C ch) ∨ ∃ t, e = .returned (.bool t) ∧ (t = true ∧ A ∨ t = false ∧ B) := by
  rcases h with ⟨h, a⟩ | ⟨h, b⟩ | h
  · exact .inr ⟨true, h, .inl ⟨rfl, a⟩⟩
  · exact .inr ⟨false, h, .inr ⟨rfl, b⟩⟩
  · exact .inl h
set_option maxHeartbeats 8000000 in
theorem splitseq_seq (s : ByteArray) (c : Nat) (hp : s.size ≤ 1000000) :
    SeqK Tryd.prog 118 #[.pointer (some ⟨c + 1, 0, none⟩), .pointer (some ⟨c, 0, none⟩), .pointer (some ⟨c + 2, 0, none⟩)] (fun i => #[partV s i]) (cutS s.data.toList).length c 9 (leftV s) (SepK c) := by
  intro l JA JB Jx Jp W hJA hJB hJx hK hS hKA hKB hY h0
  have hJK := hK
  have hN : 0 < (cutS s.data.toList).length := by
    cases hq : cutS s.data.toList with
    | nil => exact absurd hq (cutS_ne _)
    | cons x l => simp
  have hb0 : JB 0 W := by
    have h1 := hS 0 W hN h0
    rw [setCell_same (show Boxed W c 9 (leftV s 1) from hK 0 W h0)] at h1
    exact h1
  obtain ⟨⟨k1, k2, m, k3⟩, kb⟩ := hKB 0 W hb0
  refine callsIn_of_wp Tryd.func118 rfl trivial ?_ rfl
  simp only [Tryd.ntmps118, List.size_toArray, List.length_cons, List.length_nil, Nat.reduceAdd, Nat.reduceSub, Array.replicate_succ, Array.replicate_zero, List.push_toArray, List.append_toArray, List.nil_append, List.cons_append]
  gi_wp2
  clear k1 k2 k3 kb
  gi_loopg [7, 8] (cutS s.data.toList).length (fun k _ _ wr => ∃ j : Nat, k + j = (cutS s.data.toList).length ∧ j < (cutS s.data.toList).length ∧ JB j wr)
  case atStart => exact ⟨0, by omega, hN, hb0⟩
  case round =>
    obtain ⟨j, hk, hlt, hj⟩ := hrel
    obtain ⟨⟨k1, k2, m, k3⟩, kb⟩ := hKB j wr hj
    have kf := box_frozen kb
    have hY1 := fun A hA => hY j A hA hlt
    have hlen := rest_len s.data.toList j
    have hsz : s.data.toList.length = s.size := by simp
    have hz : (mkB (restS s.data.toList j)).size ≤ 1000000 := by rw [mkB_size]; omega
    have hI := fun W hm => Tryd.strings_Index (mkB (restS s.data.toList j)) ⟨#[59, 32]⟩ m W (by omega) hm
    rw [mkB_toList] at hI
    rw [show (⟨#[59, 32]⟩ : ByteArray).data.toList = [59, 32] from rfl, index_first] at hI
    have kc : wr.cell? ⟨c, 0, none⟩ = some (.string (mkB (restS s.data.toList j))) := box_cell kb
    simp only [partV] at hY1
    rcases part_at s.data.toList j hlt with ⟨hf, hlast, hpt⟩ | ⟨a, r, hf, hnext, hpt, hrs⟩
    · rw [hf] at hI
      rw [hpt] at hY1
      simp only at hI
      have HJ := Lib.hid hlast
      clear hf hpt hlen hsz hlast hk
      obtain ⟨R, hRR⟩ : ∃ R, mkB (restS s.data.toList j) = R := ⟨_, rfl⟩
      rw [hRR] at kc hz
      simp only [hRR] at hI hY1
      clear hRR kb
      obtain ⟨fn, tmps, assign, body, hy, hR⟩ := hY1 _ hj
      gi_wp2_with (refine ⟨trivial, rfl, ?_⟩; refine (callsIn_wide.2 (hI _ k3)).mono ?_; rintro e w5 ⟨rfl, h5⟩; subst h5)
      refine ⟨rfl, ?_⟩
      refine hR.mono ?_
      intro e W3 h3
      rcases yieldb_cases h3 with ⟨ch, rfl, hp3⟩ | ⟨t, rfl, h4⟩
      · exact ⟨rfl, .inr ⟨j, ch, hlt, rfl, hp3⟩⟩
      · clear h3
        gi_wp2
        go_end0
        rcases h4 with ⟨rfl, hj3⟩ | ⟨rfl, hx3⟩
        · rw [HJ.out] at hj3
          exact .inl ⟨⟨_, rfl⟩, .inl hj3⟩
        · exact .inl ⟨⟨_, rfl⟩, .inr ⟨j, hlt, hx3⟩⟩
    · rw [hf] at hI
      rw [hpt] at hY1
      simp only at hI
      have ha := first_app hf
      obtain ⟨gp, rfl⟩ : ∃ gp, gk = gp + 1 := ⟨gk - 1, by omega⟩
      have HGK := Lib.hid hk
      have HN := Lib.hid hnext
      have hS1 := fun A hA => hS (j + 1) A hnext hA
      have hcs : leftV s (j + 1 + 1) = .string (mkB r) := by show Value.string (mkB (restS s.data.toList (j + 1))) = _; rw [hrs]
      rw [hcs] at hS1
      have hle : a.length + 2 + r.length ≤ 1000000 := by
        rw [ha] at hlen
        simp at hlen
        omega
      have s1 := fun w => str_to (mkB (restS s.data.toList j)) a.length (by rw [mkB_size, ha]; simp) w
      have s2 := fun w => str_from (mkB (restS s.data.toList j)) (a.length + 2) (by rw [mkB_size, ha]; simp) w
      have t1 : (mkB (restS s.data.toList j)).data.toList.take a.length = a := by rw [mkB_toList, ha]; simp
      have t2 : (mkB (restS s.data.toList j)).data.toList.drop (a.length + 2) = r := by rw [mkB_toList, ha, List.drop_append]; simp
      rw [t1] at s1
      rw [t2] at s2
      obtain ⟨R, hRR⟩ : ∃ R, mkB (restS s.data.toList j) = R := ⟨_, rfl⟩
      rw [hRR] at kc hz
      simp only [hRR] at hI s1 s2
      have kcn : ∀ A, JA (j + 1) A → A.cell? ⟨c, 0, none⟩ = some (.string R) := fun A hA => by
        have := box_cell (hJK _ _ hA)
        rw [this, ← hRR]
        rfl
      clear hRR kb t1 t2 hpt hrs hf ha hlen hsz hnext hcs
      generalize mkB a = L at *
      generalize mkB r = R2 at *
      obtain ⟨m2, hm2⟩ : ∃ m2, a.length + 2 = m2 := ⟨_, rfl⟩
      rw [hm2] at s2 hle
      have hd : IntKind.i64.wrap ((a.length : Int) + 2) = (m2 : Int) := (IntWalk.i64_in _ ⟨by omega, by omega⟩).trans (by omega)
      have hd0 : IntKind.i64.wrap (a.length : Int) = (a.length : Int) := (IntWalk.i64_in _ ⟨by omega, by omega⟩).trans (by omega)
      have hp0 : ¬ (a.length : Int) < 0 := by omega
      clear hm2 hle
      generalize a.length = n at *
      obtain ⟨fn, tmps, assign, body, hy, hR⟩ := hY1 _ hj
      gi_wp2_with (refine ⟨trivial, rfl, ?_⟩; refine (callsIn_wide.2 (hI _ k3)).mono ?_; rintro e w5 ⟨rfl, h5⟩; subst h5)
      refine ⟨rfl, ?_⟩
      refine hR.mono ?_
      intro e W3 h3
      rcases yieldb_cases h3 with ⟨ch, rfl, hp3⟩ | ⟨t, rfl, h4⟩
      · exact ⟨rfl, .inr ⟨j, ch, hlt, rfl, hp3⟩⟩
      · clear h3
        rcases h4 with ⟨rfl, hj3⟩ | ⟨rfl, hx3⟩
        · have kc3 := kcn _ hj3
          have kf3 := box_frozen (hJK _ _ hj3)
          obtain ⟨k31, k32, m3, k33⟩ := hKA _ _ hj3
          have hS3 := hS1 _ hj3
          clear k1 k2 k3 kc kf kcn hj
          gi_wp2
          gi_roundg gp
          case measure => omega
          case rel => exact ⟨j + 1, by have := HGK.out; omega, HN.out, hS3⟩
        · gi_wp2
          refine bodyPost_ret (results_none rfl _ _ _) rfl ?_
          exact .inl ⟨⟨_, rfl⟩, .inr ⟨j, hlt, hx3⟩⟩
end
section
open Go.RowKit
set_option linter.unusedVariables false
set_option linter.unusedSimpArgs false
set_option linter.unusedSectionVars false
set_option maxRecDepth 100000
attribute [local go_sem] Oper.semAt_some

/-- a part's words as the program reads them -/
def wordB (n k : ByteArray) (al : List Int) : It :=
  if k = intB ∧ al.length = 2 then (n, 1, al.getD 0 0, al.getD 1 0, 0) else if k = textB ∧ al.length = 1 then (n, 2, 0, 0, al.getD 0 0) else (n, 0, 0, 0, 0)
def stepB (pw : List ByteArray) : Option It :=
  if pw.length < 3 then none else some (wordB (pw.getD 0 ⟨#[]⟩) (pw.getD 1 ⟨#[]⟩) ((pw.drop 2).map fun y => atoiV y.data.toList))
theorem stepI_B (y : ByteArray) : stepI y.data.toList = (stepB (cutB 32 y)).map toI := by
  unfold stepI cutB
  match cutC 32 y.data.toList with
  | [] => rfl
  | [a] => rfl
  | [a, b] => rfl
  | n :: k :: r :: rs =>
    have h3 : ¬ ((n :: k :: r :: rs).map mkB).length < 3 := by simp
    unfold stepB
    rw [if_neg h3]
    simp only [Option.map_some, Option.some.injEq]
    show _ = toI (wordB (mkB n) (mkB k) (((r :: rs).map mkB).map fun y => atoiV y.data.toList))
    have e : (((r :: rs).map mkB).map fun y => atoiV y.data.toList) = atoiV r :: rs.map atoiV := by
      rw [List.map_map]
      rfl
    rw [e]
    have c1 : (mkB k = intB ∧ (atoiV r :: rs.map atoiV).length = 2) ↔ (k = [105, 110, 116] ∧ rs.length = 1) := by
      rw [show (mkB k = intB) = (k = [105, 110, 116]) from propext (mkB_eq k [105, 110, 116])]
      simp
    have c2 : (mkB k = textB ∧ (atoiV r :: rs.map atoiV).length = 1) ↔ (k = [116, 101, 120, 116] ∧ rs.length = 0) := by
      rw [show (mkB k = textB) = (k = [116, 101, 120, 116]) from propext (mkB_eq k [116, 101, 120, 116])]
      simp
    unfold wordB
    by_cases h1 : k = [105, 110, 116] ∧ rs.length = 1
    · rw [if_pos h1, if_pos (c1.2 h1)]
      obtain ⟨b, hb⟩ : ∃ b, rs = [b] := by
        match rs, h1.2 with
        | [b], _ => exact ⟨b, rfl⟩
      subst hb
      rfl
    · rw [if_neg h1, if_neg (c := mkB k = intB ∧ _) (fun h => h1 (c1.1 h))]
      by_cases h2 : k = [116, 101, 120, 116] ∧ rs.length = 0
      · rw [if_pos h2, if_pos (c := mkB k = textB ∧ _) (c2.2 h2)]
        rfl
      · rw [if_neg h2, if_neg (c := mkB k = textB ∧ _) (fun h => h2 (c2.1 h))]
        rfl
theorem OwnG.low {α : Type} {cs : α → List Value} {e : TypeId} {k base B : Nat} {W W' : World} {v : Value} {l : List α} (h : OwnG cs e k W base v l) (hx : Upd W B W') (hlt : B < base) : OwnG cs e k W' base v l :=
  World.ownsRow.kept h (row := some B) hx (.inr (fun e => by have := h.base_ _ e; omega))
/-- what holds between the parts -/
structure IS (w : World) (n : Nat) (l : List It) (W : World) : Prop where
  a : ∃ v, Boxed W (n + 2) 22 v ∧ OwnG It.cells 32 5 W (n + 8) v l
  r2 : Boxed W n 22 (.slice none 0 0)
  r3 : Boxed W (n + 1) 43 (.int .i64 0)
  q1 : Boxed W (n + 4) 9 (.string ⟨#[59, 32]⟩)
  q2 : Boxed W (n + 5) 3 (.int .i64 0)
  x : Ext w W
theorem IS.ext {w W W' : World} {n : Nat} {l : List It} (h : IS w n l W) (hx : Ext W W') : IS w n l W' := by
  obtain ⟨v, h1, h2⟩ := h.a
  exact ⟨⟨v, hx.heap h1, h2.ext hx⟩, hx.heap h.r2, hx.heap h.r3, hx.heap h.q1, hx.heap h.q2, h.x.trans hx⟩
theorem IS.upd {w W W' : World} {n k : Nat} {l : List It} (h : IS w n l W) (hu : Upd W k W') (h0 : w.heap.size ≤ k) (h1 : k = n + 3 ∨ k = n + 6 ∨ k = n + 7) : IS w n l W' := by
  obtain ⟨v, a1, a2⟩ := h.a
  exact ⟨⟨v, hu.heap a1 (by omega), a2.low hu (by omega)⟩, hu.heap h.r2 (by omega), hu.heap h.r3 (by omega), hu.heap h.q1 (by omega), hu.heap h.q2 (by omega), Upd.ext h.x hu h0⟩
theorem IS.sep {w W : World} {n : Nat} {l : List It} (h : IS w n l W) (hL : LibW w) : SepK (n + 3) W := by
  obtain ⟨m, hm⟩ := (hL.ext h.x).len
  exact ⟨box_cell h.q1, box_cell h.q2, m, hm⟩
/-- what ParseItems leaves -/
def PIPost (s : ByteArray) (w : World) (e : Ending) (w' : World) : Prop :=
  Ext w w' ∧ ∃ P c l y, e = .returned (.tuple #[.slice P l.length c, .int .i64 y]) ∧ SlT w' P c l ∧ parsePI itemsP s.data.toList = (l.map toI, y)
theorem pfin_any (n2 n3 : Nat) (W' : World) (tmps : Array Value) (e : Int) (P : Option Addr) (l c : Nat) (h2 : tmps.getD 2 undef = .pointer (some ⟨n2, 0, none⟩)) (h3 : tmps.getD 3 undef = .pointer (some ⟨n3, 0, none⟩))
    (q2 : W'.cell? ⟨n2, 0, none⟩ = some (.slice P l c)) (q3 : W'.cell? ⟨n3, 0, none⟩ = some (.int .i64 e)) :
    (results Tryd.f52 tmps).run Tryd.prog W' = .ok (.tuple #[.slice P l c, .int .i64 e]) W' := by
  have h2' : tmps[2]?.getD undef = .pointer (some ⟨n2, 0, none⟩) := by simpa using h2
  have h3' : tmps[3]?.getD undef = .pointer (some ⟨n3, 0, none⟩) := by simpa using h3
  simp only [results, Tryd.results52]
  simp [Sem.run_bind, Result.andThen, h2', h3', go_sem, q2, q3]
def resP (s : List UInt8) (z : Option (List ItP)) : List ItP × Int := match z with
  | none => ([], 2)
  | some l => if fmtI itemsP l ≠ s then ([], 2) else (l, 0)
theorem parsePI_res {s : List UInt8} (h : ¬ 20000 < s.length) {z : Option (List ItP)} (hz : readO stepI (cutS s) = z) : parsePI itemsP s = resP s z := by
  unfold parsePI resP
  rw [if_neg h, hz]
  rfl
/-- one item put behind; what lies below is as it was -/
theorem item_app {w Wc : World} {v : Value} {l : List It} (x : It) (h : OwnG It.cells 32 5 Wc (w.heap.size + 8) v l) (hll : l.length ≤ 20001) (hz : w.heap.size + 8 ≤ Wc.heap.size) (hx : Ext w Wc) :
    ∃ v' w', (Builtin.append_ #[22, 22] 22 #[v, .slice (some ⟨Wc.heap.size, 0, none⟩) 1 1]).run Tryd.prog (Wc.alloc (.cells #[.string x.1, .int .i64 x.2.1, .int .i64 x.2.2.1, .int .i64 x.2.2.2.1, .int .i64 x.2.2.2.2] 32)) = .ok v' w' ∧
      OwnG It.cells 32 5 w' (w.heap.size + 8) v' (l ++ [x]) ∧ Ext w w' ∧ ∀ q o, q < w.heap.size + 8 → Wc.heap[q]? = some o → w'.heap[q]? = some o := by
  have hx1 : Ext Wc (Wc.alloc (.cells #[.string x.1, .int .i64 x.2.1, .int .i64 x.2.2.1, .int .i64 x.2.2.2.1, .int .i64 x.2.2.2.2] 32)) := (Ext.refl Wc).alloc _
  have h1 := h.ext hx1
  obtain ⟨v', w', hr, ho, hg, hb⟩ := OwnG.append elemT 22 h1 (SlG.one (cs := It.cells) (k := 5) (fun _ => rfl) x (t0 := 32) (C := #[.string x.1, .int .i64 x.2.1, .int .i64 x.2.2.1, .int .i64 x.2.2.2.1, .int .i64 x.2.2.2.2]) (b := Wc.heap.size) rfl rfl) (fun h => by cases h) (by simp; omega) (by simp; omega) (by rw [World.size_alloc]; omega)
  refine ⟨v', w', hr, ho, below_ext (hx.trans hx1) hb (by omega), fun q o hq ho => grown_heap hg (hx1.heap ho) (fun e => by have := h1.base_ _ e; omega)⟩
theorem IS.next {w W5 w' : World} {l : List It} {v' : Value} {x : It} (h : IS w w.heap.size l W5) (hk : ∀ q o, q < w.heap.size + 8 → W5.heap[q]? = some o → w'.heap[q]? = some o) (ho : OwnG It.cells 32 5 w' (w.heap.size + 8) v' (l ++ [x])) (hx : Ext w w') :
    IS w w.heap.size (l ++ [x]) (w'.setCell ⟨w.heap.size + 2, 0, none⟩ v') := by
  obtain ⟨v, a1, a2⟩ := h.a
  have hlow : ∀ q o, q < w.heap.size + 8 → q ≠ w.heap.size + 2 → W5.heap[q]? = some o → (w'.setCell ⟨w.heap.size + 2, 0, none⟩ v').heap[q]? = some o := fun q o hq hne ho => (Below.heap_setCell _ _ _ _ hne).trans (hk q o hq ho)
  have b4 : Boxed w' (w.heap.size + 2) 22 v := hk _ _ (by omega) a1
  exact ⟨⟨v', b4.set _, ho.low (Upd.setCell _ _ _ _) (by omega)⟩, hlow _ _ (by omega) (by omega) h.r2, hlow _ _ (by omega) (by omega) h.r3, hlow _ _ (by omega) (by omega) h.q1, hlow _ _ (by omega) (by omega) h.q2, hx.setCell (by simp) _⟩
theorem round_end {s : ByteArray} {w W5 w' : World} {l : List It} {v' : Value} {x : It} {i : Nat} {r' : Loop} (hD : W5.heap[w.heap.size + 6]? = some (.deferred (some []))) (hL : W5.heap[w.heap.size + 6 + 1]? = some (.loop r'))
    (hb : Boxed W5 (w.heap.size + 3) 9 (leftV s (i + 1))) (h : IS w w.heap.size l W5) (hk : ∀ q o, q < w.heap.size + 8 → W5.heap[q]? = some o → w'.heap[q]? = some o) (ho : OwnG It.cells 32 5 w' (w.heap.size + 8) v' (l ++ [x])) (hx : Ext w w')
    (hr : RdRel stepI (cutS s.data.toList) (l ++ [x]) (i + 1)) :
    (w'.setCell ⟨w.heap.size + 2, 0, none⟩ v').heap[w.heap.size + 6]? = W5.heap[w.heap.size + 6]? ∧ (w'.setCell ⟨w.heap.size + 2, 0, none⟩ v').heap[w.heap.size + 6 + 1]? = W5.heap[w.heap.size + 6 + 1]? ∧
      (∃ l, RdRel stepI (cutS s.data.toList) l (i + 1) ∧ IS w w.heap.size l (w'.setCell ⟨w.heap.size + 2, 0, none⟩ v')) ∧ Boxed (w'.setCell ⟨w.heap.size + 2, 0, none⟩ v') (w.heap.size + 3) 9 (leftV s (i + 1)) := by
  have hlow : ∀ q o, q < w.heap.size + 8 → q ≠ w.heap.size + 2 → W5.heap[q]? = some o → (w'.setCell ⟨w.heap.size + 2, 0, none⟩ v').heap[q]? = some o := fun q o hq hne ho => (Below.heap_setCell _ _ _ _ hne).trans (hk q o hq ho)
  exact ⟨(hlow _ _ (by omega) (by omega) hD).trans hD.symm, (hlow _ _ (by omega) (by omega) hL).trans hL.symm, ⟨_, hr, h.next hk ho hx⟩, hlow _ _ (by omega) (by omega) hb⟩
/-- the new item under way: in a block of its own -/
structure Fresh (w W5 : World) (B : Nat) (v : Value) (l : List It) (C : Array Value) (W : World) : Prop where
  low : ∀ q o, q < w.heap.size + 8 → W5.heap[q]? = some o → W.heap[q]? = some o
  own : OwnG It.cells 32 5 W (w.heap.size + 8) v l
  box : BoxN W B 32 C
  x : Ext w W
theorem Fresh.set {w W5 W : World} {B : Nat} {v : Value} {l : List It} {C : Array Value} (h : Fresh w W5 B v l C W) (h0 : OwnG It.cells 32 5 W5 (w.heap.size + 8) v l) (h1 : W5.heap.size ≤ B) (h2 : w.heap.size + 8 ≤ B) (i : Nat) (u : Value) :
    Fresh w W5 B v l (C.setIfInBounds i u) (W.setCell ⟨B, i, none⟩ u) :=
  ⟨fun q o hq ho => (Below.heap_setCell _ _ _ _ (by simp only; omega)).trans (h.low q o hq ho),
    World.ownsRow.kept h.own (row := some B) (Upd.setCell _ _ _ _) (.inr (fun e => by have := (World.ownsRow.lt h0 _ e).2; omega)), h.box.set _ _, h.x.setCell (by simp only; omega) _⟩
theorem Fresh.drew {w W5 W : World} {B : Nat} {v : Value} {l : List It} {C : Array Value} (h : Fresh w W5 B v l C W) : Fresh w W5 B v l C W.drew :=
  ⟨h.low, h.own.ext ((Ext.refl _).drew), h.box.ext ((Ext.refl _).drew), h.x.drew⟩
end
end Go.Proofs.YtepgpejdnlejnaaDoor
