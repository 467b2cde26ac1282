/- RangeK; LkL; LkM (merged by group.py) -/
import Derived.Test.YtaciedooeeklpaaDoorQ05
import Derived.Test.YtaciedooeeklpaaDoorQ04
import Derived.Stop.RegionWithIn
import Derived.Sort.QuietIn
import Derived.Sort.LoopGhostIn
import Derived.StillTailTactics
namespace Go.Proofs.YtaciedooeeklpaaDoor
section
open Go.RowKit
set_option linter.unusedVariables false
set_option maxRecDepth 20000
set_option linter.unusedSectionVars false
/-- Of an iterator that yields N times and keeps in cell c what is left: ahead of yield i the cell goes from cs i to cs (i + 1). JA: ahead of the store; JB: at the yield. -/
def SeqK (P : Program) (g : Nat) (lb : Array Value) (encs : Nat → Array Value) (N : Nat) (c : Nat) (t : TypeId) (cs : Nat → Value) (K : World → Prop) : Prop :=
  ∀ (l : Nat) (JA JB Jx : Nat → World → Prop) (Jp : Nat → List PanicEntry → World → Prop) (W : World),
    (∀ i A B, JA i A → Ext A B → JA i B) → (∀ i A B, JB i A → Ext A B → JB i B) → (∀ i A B, Jx i A → Ext A B → Jx i B) →
    (∀ i A, JA i A → A.heap[c]? = some (.cells #[cs i] t (0, 0))) → (∀ i A, i < N → JA i A → JB i (A.setCell ⟨c, 0, none⟩ (cs (i + 1)))) → (∀ i A, JA i A → K A) → (∀ i A, JB i A → K A ∧ A.heap[c]? = some (.cells #[cs (i + 1)] t (0, 0))) →
    (∀ i A, JB i A → i < N → YieldAt Fence.wide 0 P l (encs i) A fun e W' =>
      (e = .returned (.bool true) ∧ JA (i + 1) W') ∨ (e = .returned (.bool false) ∧ Jx i W') ∨ ∃ ch, e = .panicked ch ∧ Jp i ch W') →
    JA 0 W →
    CallsIn Fence.wide 0 P g (#[.func (.yield l) #[] #[]] ++ lb) W fun e W' =>
      ((∃ v, e = .returned v) ∧ (JA N W' ∨ ∃ i, i < N ∧ Jx i W')) ∨ ∃ i ch, i < N ∧ e = .panicked ch ∧ Jp i ch W'
section
variable {P : Program} {Q : Exit → Act → World → Prop} {a : Act} {w : World} {f : FuncId}

/-- The statement: a range over a function that has its contract. -/
theorem wpAt_rangeFuncK {g : Operand} {ps : Array Tmp} {assign body : Code} {fn : Func} (hf : P.funcs[f]? = some fn) {gf : Nat} {lb : Array Value}
    (hg : a.eval g = .func (.func gf) #[] lb) (eg : ∀ args w, (callFunc gf args).run P w = .ok (.enter gf args) w)
    {encs : Nat → Array Value} {N c : Nat} {t : TypeId} {cs : Nat → Value} {K : World → Prop} (hseq : SeqK P gf lb encs N c t cs K) (hc : c < w.heap.size) (hps : ∀ i, (encs i).size = ps.size)
    (IA IB : Nat → World → Prop) (Ix : Nat → Code → World → Prop) (Ip : Nat → List PanicEntry → World → Prop)
    (hIe : ∀ i A B, IA i A → Ext A B → IA i B) (hIBe : ∀ i A B, IB i A → Ext A B → IB i B) (hIxe : ∀ i c A B, Ix i c A → Ext A B → Ix i c B)
    (hIu : ∀ i A r r', IA i A → A.heap[w.heap.size + 1]? = some (.loop r) → IA i (A.putObj (w.heap.size + 1) (.loop r'))) (hIxu : ∀ i c A r r', Ix i c A → A.heap[w.heap.size + 1]? = some (.loop r) → Ix i c (A.putObj (w.heap.size + 1) (.loop r')))
    (hIs : ∀ i A, IA i A → A.heap[c]? = some (.cells #[cs i] t (0, 0))) (hIst : ∀ i A, i < N → IA i A → IB i (A.setCell ⟨c, 0, none⟩ (cs (i + 1)))) (hKA : ∀ i A, IA i A → K A) (hKB : ∀ i A, IB i A → K A ∧ A.heap[c]? = some (.cells #[cs (i + 1)] t (0, 0))) (h0 : IA 0 w)
    (hround : ∀ i W r, IB i W → w.heap.size + 2 ≤ W.heap.size → W.heap[w.heap.size]? = some (.deferred (some [])) → W.heap[w.heap.size + 1]? = some (.loop r) → i < N →
      assign.wpIn (Fence.wide.inRound (w.heap.size + 1)) 0 P (Exit.then (fun a' W' => W'.heap[w.heap.size]? = W.heap[w.heap.size]? ∧ W'.heap[w.heap.size + 1]? = W.heap[w.heap.size + 1]? ∧
        ∀ W'' r', W'' = W'.putObj (w.heap.size + 1) (.loop r') → body.wpIn (Fence.wide.inRound (w.heap.size + 1)) 0 P (postP w.heap.size IA Ix Ip i W'') a' W'') (fun _ _ _ => False))
        { tmps := (ps.zip (encs i)).foldl (fun t (p, v) => t.setIfInBounds p v) a.tmps, defers := [] } W)
    (hdone : ∀ W, IA N W → W.heap[w.heap.size]? = some (.deferred (some [])) → Q .normal { a with defers := { target := .collected w.heap.size, args := #[] } :: a.defers } W)
    (hstop : ∀ i c W, i < N → Ix i c W → W.heap[w.heap.size]? = some (.deferred (some [])) → c.wp P Q { a with defers := { target := .collected w.heap.size, args := #[] } :: a.defers } W)
    (hpanic : ∀ i ch W, i < N → Ip i ch W → W.heap[w.heap.size]? = some (.deferred (some [])) → Q (.panic ch) { a with defers := { target := .collected w.heap.size, args := #[] } :: a.defers } W) :
    wpAt f P (Code.rangeFunc g ps assign body) Q a w := by
  intro b k cs hro hb
  obtain ⟨rec, hrec⟩ : ∃ rec : LoopState → Option Code → Loop, rec = fun st pe => { state := st, pending := pe, fn := b.fn, tmps := a.tmps, params := ps, assign, body, defers := w.heap.size } := ⟨_, rfl⟩
  obtain ⟨W1, hW1⟩ : ∃ W1, (w.alloc (.deferred (some []))).alloc (.loop (rec .ready none)) = W1 := ⟨_, rfl⟩
  have hL1 : W1.heap[w.heap.size + 1]? = some (.loop (rec .ready none)) := by
    rw [← hW1]; have := World.alloc_heap_new (w.alloc (.deferred (some []))) (.loop (rec .ready none)); rwa [World.size_alloc] at this
  have hK1 : W1.heap[w.heap.size]? = some (.deferred (some [])) := by
    rw [← hW1]; exact (Below.heap_alloc _ _ _ (by simp)).trans (World.alloc_heap_new w _)
  have hE1 : Ext w W1 := by rw [← hW1]; exact ((Ext.refl w).alloc _).alloc _
  have hI1 : IA 0 W1 := hIe _ _ _ h0 hE1
  have he : (Instr.enterLoop b.fn a.tmps ps assign body b.roundOf).run P w = .ok (w.heap.size + 1, [{ target := .collected w.heap.size, args := #[] }]) W1 := by
    rw [hro, ← hW1, hrec]; exact run_enterLoop_outer _ _ _ _ _
  have hres : (resolve a.eval (rangeCall g (w.heap.size + 1)) 0).run P W1 = .ok { target := .fn (.func gf) lb, args := #[.func (.yield (w.heap.size + 1)) #[] #[]] } W1 := by
    simp only [resolve, hg]
    simp [go_sem]
  have hinv : (invoke (Target.fn (.func gf) lb) #[.func (.yield (w.heap.size + 1)) #[] #[]]).run P W1 = .ok (.enter gf (#[.func (.yield (w.heap.size + 1)) #[] #[]] ++ lb)) W1 := by
    simp [invoke, go_sem, eg]
  have h0' : (lone (b.atR a (.code (.rangeFunc g ps assign body) :: k)) cs w).fenced P Fence.wide :=
    fenced_lone (.inl trivial) (fun _ _ => trivial) (room_wide _)
  have henter := stepR_rangeFunc (P := P) (b := b) (a := a) (k := k) (cs := cs) (w := w) he hres hinv
  have hcall := hseq (w.heap.size + 1)
    (fun i W => IA i W ∧ W.heap[w.heap.size + 1]? = some (.loop (rec .ready none)) ∧ W.heap[w.heap.size]? = some (.deferred (some [])))
    (fun i W => IB i W ∧ W.heap[w.heap.size + 1]? = some (.loop (rec .ready none)) ∧ W.heap[w.heap.size]? = some (.deferred (some [])))
    (fun i W => ∃ c, Ix i c W ∧ W.heap[w.heap.size + 1]? = some (.loop (rec .done (some c))) ∧ W.heap[w.heap.size]? = some (.deferred (some [])))
    (fun i ch W => Ip i ch W ∧ W.heap[w.heap.size]? = some (.deferred (some [])))
    W1
    (fun i A B ⟨h1, h2, h3⟩ hx => ⟨hIe i A B h1 hx, hx.heap h2, hx.heap h3⟩)
    (fun i A B ⟨h1, h2, h3⟩ hx => ⟨hIBe i A B h1 hx, hx.heap h2, hx.heap h3⟩)
    (fun i A B ⟨c, h1, h2, h3⟩ hx => ⟨c, hIxe i c A B h1 hx, hx.heap h2, hx.heap h3⟩)
    (fun i A h => hIs i A h.1)
    (fun i A hi ⟨h1, h2, h3⟩ => ⟨hIst i A hi h1, (Below.heap_setCell A _ _ _ (by show _ ≠ c; omega)).trans h2, (Below.heap_setCell A _ _ _ (by show _ ≠ c; omega)).trans h3⟩)
    (fun i A h => hKA i A h.1) (fun i A h => hKB i A h.1)
    ?_ ⟨hI1, hL1, hK1⟩
  · have hroom : Fence.wide.room ((b.atR { a with defers := [{ target := .collected w.heap.size, args := #[] }] ++ a.defers } (.inRangeFunc (w.heap.size + 1) :: k) :: cs).length + 1 + 0) := room_wide _
    obtain ⟨e, w₃, fr, hR, hsteps, hfn, hleave⟩ := hcall.2 (b.atR { a with defers := [{ target := .collected w.heap.size, args := #[] }] ++ a.defers } (.inRangeFunc (w.heap.size + 1) :: k) :: cs) hroom
    rcases hR with ⟨⟨v, rfl⟩, hR⟩ | ⟨i, ch, hi, rfl, hp, hD⟩
    · have hl : (lone fr (b.atR { a with defers := [{ target := .collected w.heap.size, args := #[] }] ++ a.defers } (.inRangeFunc (w.heap.size + 1) :: k) :: cs) w₃).fenced P Fence.wide := fenced_leaving trivial hroom hleave
      have fin : ∀ (jump : Option Code) (st : LoopState), st ≠ .busy → w₃.heap[w.heap.size + 1]? = some (.loop (rec st jump)) →
          StepsIn (Machine.fenced P Fence.wide) P (lone (b.atR a (.code (.rangeFunc g ps assign body) :: k)) cs w)
            (lone (b.atR { a with defers := [{ target := .collected w.heap.size, args := #[] }] ++ a.defers } ((jump.map Item.code).toList ++ k)) cs (w₃.putObj (w.heap.size + 1) (.loop (rec .exhausted jump)))) := by
        intro jump st hst hl3
        have hend := run_endLoop (P := P) hl3 (by rw [hrec]; exact hst)
        rw [hrec] at hend
        refine .head h0' henter (StepsIn.trans hsteps (.head hl ?_ (.one (fenced_calm (fr := b.atR { a with defers := [{ target := .collected w.heap.size, args := #[] }] ++ a.defers } (.endRangeFunc (w.heap.size + 1) :: k)) trivial (n := 0) (room_wide _) rfl) (stepR_endRangeFunc (by rw [hrec]; exact hend)))))
        rw [← finish_atR_inRangeFunc (w.heap.size + 1) v]; exact step_leave_returned hleave
      rcases hR with ⟨hi, hL, hD⟩ | ⟨i, hlt, c, hi, hL, hD⟩
      · exact ⟨.normal, _, _, hdone _ (hIu _ _ _ _ hi hL) ((World.putObj_heap_other (by omega)).trans hD), fin none _ (by simp) hL⟩
      · obtain ⟨e', a'', w₅, hq, harr⟩ := (wpIn_wide (n := 0)).2 (hstop i c _ hlt (hIxu _ _ _ _ (rec .exhausted (some c)) hi hL) ((World.putObj_heap_other (by omega)).trans hD)) b k cs hro trivial (room_wide _)
        exact ⟨e', a'', w₅, hq, .of_steps (fin (some c) _ (by simp) hL) harr⟩
    · have hl : (lone fr (b.atR { a with defers := [{ target := .collected w.heap.size, args := #[] }] ++ a.defers } (.inRangeFunc (w.heap.size + 1) :: k) :: cs) w₃).fenced P Fence.wide := fenced_leaving trivial hroom hleave
      refine ⟨.panic ch, _, w₃, hpanic i ch w₃ hi hp hD, .inRangeFunc (w.heap.size + 1) :: k, .head h0' henter (StepsIn.trans hsteps (.one hl ?_))⟩
      rw [List.singleton_append, ← Frame.raise_atR]; exact step_leave_panicked hleave
  · rintro i W ⟨hi, hl, hD⟩ hlt
    have hsz : w.heap.size + 1 < W.heap.size := (Array.getElem?_eq_some_iff.1 hl).1
    have hy := run_yield (P := P) (args := encs i) hl (by rw [hrec]; exact hps i)
    rw [hrec] at hy
    refine ⟨b.fn, _, assign, body, hy, roundIn_panics (by rw [hb]; exact hf) (wpIn_mono (hround i W _ hi (by omega) hD hl hlt) ?_)⟩
    rintro e a' W' hp
    cases e with
    | exit id => exact hp.elim
    | goto t => exact hp.elim
    | ret => exact hp.elim
    | panic ch => exact hp.elim
    | outgrown => exact hp.elim
    | normal =>
      obtain ⟨hD', hl', hbody⟩ := hp
      rw [hl] at hl'
      rw [hD] at hD'
      have hsz' : w.heap.size + 1 < W'.heap.size := (Array.getElem?_eq_some_iff.1 hl').1
      refine ⟨_, run_beginRound hl' (by rw [hrec]), wpIn_mono (hbody _ _ rfl) ?_⟩
      have hl2 : (W'.putObj (w.heap.size + 1) (.loop { rec .ready none with state := .busy })).heap[w.heap.size + 1]? = some (.loop { rec .ready none with state := .busy }) := World.putObj_heap_same hsz'
      have hD2 : (W'.putObj (w.heap.size + 1) (.loop { rec .ready none with state := .busy })).heap[w.heap.size]? = some (.deferred (some [])) := (World.putObj_heap_other (by omega)).trans hD'
      generalize W'.putObj (w.heap.size + 1) (.loop { rec .ready none with state := .busy }) = W2 at hl2 hD2
      have fin : ∀ (jump : Option Code) (W3 : World), W3.heap[w.heap.size]? = W2.heap[w.heap.size]? → W3.heap[w.heap.size + 1]? = W2.heap[w.heap.size + 1]? →
          (Instr.endRound (w.heap.size + 1) jump).run P W3 = .ok (.bool jump.isNone) (W3.putObj (w.heap.size + 1) (.loop (rec (if jump.isNone then .ready else .done) jump))) ∧
          (W3.putObj (w.heap.size + 1) (.loop (rec (if jump.isNone then .ready else .done) jump))).heap[w.heap.size + 1]? = some (.loop (rec (if jump.isNone then .ready else .done) jump)) ∧
          (W3.putObj (w.heap.size + 1) (.loop (rec (if jump.isNone then .ready else .done) jump))).heap[w.heap.size]? = some (.deferred (some [])) := fun jump W3 hd3 hl3 => by
        rw [hl2] at hl3
        rw [hD2] at hd3
        have := run_endRound (P := P) jump hl3
        rw [hrec] at this hl3 ⊢
        exact ⟨this, World.putObj_heap_same (Array.getElem?_eq_some_iff.1 hl3).1, (World.putObj_heap_other (by omega)).trans hd3⟩
      rintro e a3 W3 hp
      cases e with
      | normal =>
        obtain ⟨hd3, hk3, hi3⟩ := hp
        obtain ⟨hr, hl4, hk4⟩ := fin none W3 hd3 hk3
        exact ⟨_, _, hr, .inl ⟨rfl, hIu _ _ _ _ hi3 (hk3.trans hl2), hl4, hk4⟩⟩
      | ret =>
        obtain ⟨hd3, hk3, hi3⟩ := hp
        obtain ⟨hr, hl4, hk4⟩ := fin (some .ret) W3 hd3 hk3
        exact ⟨_, _, hr, .inr (.inl ⟨rfl, .ret, hIxu _ _ _ _ _ hi3 (hk3.trans hl2), hl4, hk4⟩)⟩
      | exit id =>
        obtain ⟨hd3, hk3, hi3⟩ := hp
        obtain ⟨hr, hl4, hk4⟩ := fin (some (.exit id)) W3 hd3 hk3
        exact ⟨_, _, hr, .inr (.inl ⟨rfl, .exit id, hIxu _ _ _ _ _ hi3 (hk3.trans hl2), hl4, hk4⟩)⟩
      | goto t =>
        obtain ⟨hd3, hk3, hi3⟩ := hp
        obtain ⟨hr, hl4, hk4⟩ := fin (some (.goto t)) W3 hd3 hk3
        exact ⟨_, _, hr, .inr (.inl ⟨rfl, .goto t, hIxu _ _ _ _ _ hi3 (hk3.trans hl2), hl4, hk4⟩)⟩
      | panic ch =>
        obtain ⟨hd3, ha3, hi3⟩ := hp
        exact ⟨ha3, .inr (.inr ⟨ch, rfl, hi3, by rw [hd3]; exact hD2⟩)⟩
      | outgrown => exact hp.elim
end
end
section
open Go.RowKit
set_option linter.unusedVariables false
set_option linter.unusedSimpArgs false
set_option linter.unusedSectionVars false
set_option maxRecDepth 100000
attribute [local go_sem] Oper.semAt_some

/-- the place of the last slash among the first n bytes; -1 -/
def lastN (l : List UInt8) : Nat → Int
  | 0 => -1
  | n + 1 => if l.getD n 0 = 47 then n else lastN l n
theorem lastN_spec (l : List UInt8) : ∀ n, n ≤ l.length → (lastN l n = -1 ∧ ∀ y, y < n → l.getD y 0 ≠ 47) ∨ ∃ i : Nat, lastN l n = i ∧ i < n ∧ l.getD i 0 = 47 ∧ ∀ y, i < y → y < n → l.getD y 0 ≠ 47
  | 0, _ => .inl ⟨rfl, fun y hy => by omega⟩
  | n + 1, hn => by
    unfold lastN
    by_cases e : l.getD n 0 = 47
    · rw [if_pos e]
      exact .inr ⟨n, rfl, by omega, e, fun y h1 h2 => by omega⟩
    · rw [if_neg e]
      rcases lastN_spec l n (by omega) with ⟨h1, h2⟩ | ⟨i, h1, h2, h3, h4⟩
      · refine .inl ⟨h1, fun y hy => ?_⟩
        by_cases ey : y = n
        · subst ey; exact e
        · exact h2 y (by omega)
      · refine .inr ⟨i, h1, by omega, h3, fun y g1 g2 => ?_⟩
        by_cases ey : y = n
        · subst ey; exact e
        · exact h4 y g1 (by omega)
def lastL (l : List UInt8) : Int := lastN l l.length
theorem last_pos {l : List UInt8} (h : 0 ≤ lastL l) : (lastL l).toNat < l.length := by
  rcases lastN_spec l l.length (Nat.le_refl _) with ⟨h1, _⟩ | ⟨i, h1, h2, _⟩
  · unfold lastL at h; omega
  · unfold lastL; omega
/-- a name and those above it -/
def upsL : Nat → List UInt8 → List (List UInt8)
  | 0, l => [l]
  | f + 1, l => l :: if lastL l < 0 then [] else upsL f (l.take (lastL l).toNat)
theorem ups_ne (f : Nat) (l : List UInt8) : 0 < (upsL f l).length ∧ (upsL f l).getD 0 [] = l := by
  cases f <;> simp [upsL]
theorem ups_spec : ∀ (f : Nat) (l : List UInt8), l.length ≤ f → ∀ i, i < (upsL f l).length → (i + 1 < (upsL f l).length ∧ 0 ≤ lastL ((upsL f l).getD i []) ∧ (upsL f l).getD (i + 1) [] = ((upsL f l).getD i []).take (lastL ((upsL f l).getD i [])).toNat) ∨ (i + 1 = (upsL f l).length ∧ lastL ((upsL f l).getD i []) < 0)
  | 0, l, hl, i, hi => by
    have hi : i < 1 := hi
    obtain rfl : i = 0 := by omega
    have : l = [] := List.length_eq_zero_iff.1 (by omega)
    subst this
    exact .inr ⟨rfl, by decide⟩
  | f + 1, l, hl, i, hi => by
    unfold upsL at hi ⊢
    by_cases hneg : lastL l < 0
    · rw [if_pos hneg] at hi ⊢
      have hi : i < 1 := hi
      obtain rfl : i = 0 := by omega
      exact .inr ⟨rfl, hneg⟩
    · rw [if_neg hneg] at hi ⊢
      have hp := last_pos (l := l) (by omega)
      cases i with
      | zero =>
        obtain ⟨h1, h2⟩ := ups_ne f (l.take (lastL l).toNat)
        refine .inl ⟨by simp; omega, by simpa using hneg, ?_⟩
        simpa using h2
      | succ i =>
        have ih := ups_spec f (l.take (lastL l).toNat) (by rw [List.length_take]; omega) i (by simpa using hi)
        simpa using ih
theorem ups_le : ∀ (f : Nat) (l : List UInt8) (i : Nat), ((upsL f l).getD i []).length ≤ l.length
  | 0, l, i => by
    cases i <;> simp [upsL]
  | f + 1, l, i => by
    unfold upsL
    cases i with
    | zero => simp
    | succ i =>
      by_cases hneg : lastL l < 0
      · simp [hneg]
      · rw [if_neg hneg]
        have := ups_le f (l.take (lastL l).toNat) i
        rw [List.length_take] at this
        simp only [List.getD_cons_succ]
        omega
theorem ups_mem : ∀ (f : Nat) (l x : List UInt8), l.length ≤ f → (x ∈ upsL f l ↔ x = l ∨ aboveB x l = true)
  | 0, l, x, hl => by
    have : l = [] := List.length_eq_zero_iff.1 (by omega)
    subst this
    have := above_len (a := x) (b := []) (by simp)
    simp [upsL, this]
  | f + 1, l, x, hl => by
    have hsp := lastN_spec l l.length (Nat.le_refl _)
    change (lastL l = -1 ∧ _) ∨ (∃ i : Nat, lastL l = i ∧ _) at hsp
    unfold upsL
    rw [List.mem_cons]
    rcases hsp with ⟨h1, h2⟩ | ⟨i, h1, h2, h3, h4⟩
    · rw [if_pos (by omega)]
      have : aboveB x l = false := by
        cases e : aboveB x l with
        | false => rfl
        | true =>
          by_cases hlt : x.length < l.length
          · exact absurd ((above_iff hlt).1 e).2 (h2 _ hlt)
          · rw [above_len hlt] at e; cases e
      simp [this]
    · rw [if_neg (by omega), h1]
      simp only [Int.toNat_natCast]
      rw [ups_mem f (l.take i) x (by rw [List.length_take]; omega)]
      have hti : (l.take i).length = i := by rw [List.length_take]; omega
      have key : (x = l.take i ∨ aboveB x (l.take i) = true) ↔ aboveB x l = true := by
        by_cases hx : x.length < l.length
        · rw [above_iff hx]
          by_cases hxi : x.length < i
          · rw [above_iff (by omega), List.take_take, Nat.min_eq_left (by omega)]
            have hg : (l.take i).getD x.length 0 = l.getD x.length 0 := by simp [List.getD_eq_getElem?_getD, List.getElem?_take, hxi]
            rw [hg]
            constructor
            · rintro (h | h)
              · rw [h] at hxi; omega
              · exact h
            · exact .inr
          · rw [show aboveB x (l.take i) = false from above_len (by omega)]
            constructor
            · rintro (h | h)
              · have hxl : x.length = i := by rw [h]; exact hti
                rw [hxl]
                exact ⟨h.symm, h3⟩
              · cases h
            · rintro ⟨g1, g2⟩
              by_cases e : x.length = i
              · rw [e] at g1; exact .inl g1.symm
              · exact absurd g2 (h4 _ (by omega) hx)
        · rw [above_len hx, show aboveB x (l.take i) = false from above_len (by omega)]
          constructor
          · rintro (h | h)
            · rw [h] at hx; omega
            · cases h
          · intro h; cases h
      rw [key]
/-- the last slash -/
theorem lastidx_any (s : ByteArray) (w : World) (hs : s.size ≤ 1000000) : Calls Tryd.prog 72 #[.string s, .int .u8 47] w fun e w' => e = .returned (.int .i64 (lastL s.data.toList)) ∧ w = w' := by
  have la : s.data.toList.length = s.size := by simp
  have HL := Lib.hid (show lastL s.data.toList = lastN s.data.toList s.size from by unfold lastL; rw [la])
  have d0 : IntKind.i64.wrap ((s.size : Int) - 1) = (s.size : Int) - 1 := IntWalk.i64_in _ ⟨by omega, by omega⟩
  go_enter Tryd.func72, Tryd.ntmps72
  go_wp2_with (fail)
  go_loopw [5] (fun i wr => ∃ k : Nat, k ≤ s.size ∧ i = .int .i64 ((k : Int) - 1) ∧ Hid (lastL s.data.toList = lastN s.data.toList k) ∧ w = wr) (fun i _ => ((intOf i) + 1).toNat)
  case atStart => exact ⟨s.size, by omega, rfl, HL, rfl⟩
  case round =>
    obtain ⟨k, hk, rfl, hn, hwr⟩ := hrel
    obtain rfl := hwr
    cases k with
    | zero =>
      have HV := Lib.hid (show lastL s.data.toList = -1 from hn.out)
      go_wp2_with (fail)
      go_ret
      exact ⟨by rw [HV.out]; rfl, rfl⟩
    | succ n =>
      have e1 : ((n + 1 : Nat) : Int) - 1 = (n : Int) := by omega
      rw [e1]
      have hlt : n < s.size := by omega
      have cj : (n : Int) < s.size := by omega
      have c0 : (0 : Int) ≤ (n : Int) := by omega
      have d1 : IntKind.i64.wrap ((n : Int) - 1) = (n : Int) - 1 := IntWalk.i64_in _ ⟨by omega, by omega⟩
      have s2 := fun w => str_index s n hlt w
      rw [byteN_getD hlt] at s2
      by_cases hc : s.data.toList.getD n 0 = 47
      · have HV := Lib.hid (show lastL s.data.toList = n from by rw [hn.out, lastN, if_pos hc])
        rw [hc] at s2
        clear hn hc HL
        go_wp2_with (fail)
        go_ret
        exact ⟨by rw [HV.out]; rfl, rfl⟩
      · have HV := Lib.hid (show lastL s.data.toList = lastN s.data.toList n from by rw [hn.out, lastN, if_neg hc])
        have h3 : (((s.data.toList.getD n 0).toNat : Int) == 47) = false := by
          rw [beq_eq_false_iff_ne]
          intro e
          exact hc (UInt8.toNat_inj.1 (by show _ = 47; omega))
        clear hn hc HL
        generalize ((s.data.toList.getD n 0).toNat : Int) = z at *
        go_wp2_with (fail)
        go_roundw
        case rel => exact ⟨n, by omega, rfl, HV, by first | rfl | trivial⟩
        case measure => simp [intOf]
theorem lastib_any (s : ByteArray) (w : World) (hs : s.size ≤ 1000000) : Calls Tryd.prog 62 #[.string s, .int .u8 47] w fun e w' => e = .returned (.int .i64 (lastL s.data.toList)) ∧ w = w' := by
  have hI := lastidx_any s w hs
  go_enter Tryd.func62, Tryd.ntmps62
  go_wp2_with (go_at_call 72; refine hI.mono ?_; rintro e w1 ⟨rfl, rfl⟩)
  go_ret
  exact ⟨rfl, rfl⟩
end
section
open Go.RowKit
set_option linter.unusedVariables false
set_option linter.unusedSimpArgs false
set_option linter.unusedSectionVars false
set_option maxRecDepth 100000
attribute [local go_sem] Oper.semAt_some

def upsB (s : ByteArray) : List (List UInt8) := upsL s.data.toList.length s.data.toList
def upB (s : ByteArray) (i : Nat) : List UInt8 := (upsB s).getD i []
def upV (s : ByteArray) (i : Nat) : Value := .string (mkB (upB s i))
def upLeft (s : ByteArray) : Nat → Value
  | 0 => .string s
  | i + 1 => .string (mkB (upB s i))
theorem setCell_same {W : World} {c : Nat} {t : TypeId} {v : Value} (h : Boxed W c t v) : W.setCell ⟨c, 0, none⟩ v = W := by
  have hx : (W.setCell ⟨c, 0, none⟩ v).heap = W.heap := by
    apply Array.ext_getElem?
    intro i
    by_cases hi : i = c
    · subst hi
      exact (h.set v : _ = _).trans h.symm
    · exact Below.heap_setCell W ⟨c, 0, none⟩ v i hi
  have e : W.setCell ⟨c, 0, none⟩ v = { W with heap := (W.setCell ⟨c, 0, none⟩ v).heap } := rfl
  rw [e, hx]
theorem box_cell {W : World} {c : Nat} {v : Value} {t : TypeId} (h : W.heap[c]? = some (.cells #[v] t (0, 0))) : W.cell? ⟨c, 0, none⟩ = some v := by simp [World.cell?, h]
theorem box_frozen {W : World} {c : Nat} {v : Value} {t : TypeId} (h : W.heap[c]? = some (.cells #[v] t (0, 0))) : W.frozen? ⟨c, 0, none⟩ = false := by simp [World.frozen?, h]
theorem yieldb_cases {e : Ending} {A B : Prop} {C : List PanicEntry → Prop} (h : (e = .returned (.bool true) ∧ A) ∨ (e = .returned (.bool false) ∧ B) ∨ ∃ ch, e = .panicked ch ∧ C ch) :
    (∃ ch, e = .panicked ch ∧ C ch) ∨ ∃ t, e = .returned (.bool t) ∧ (t = true ∧ A ∨ t = false ∧ B) := by
  rcases h with ⟨h, a⟩ | ⟨h, b⟩ | h
  · exact .inr ⟨true, h, .inl ⟨rfl, a⟩⟩
  · exact .inr ⟨false, h, .inr ⟨rfl, b⟩⟩
  · exact .inl h
theorem upB0 (s : ByteArray) : upB s 0 = s.data.toList := (ups_ne _ _).2
theorem upB_len (s : ByteArray) (i : Nat) : (upB s i).length ≤ s.size := by
  have := ups_le s.data.toList.length s.data.toList i
  have h : s.data.toList.length = s.size := by simp
  unfold upB upsB
  omega
theorem above1_any (s : ByteArray) (w : World) : Calls Tryd.prog 43 #[.string s] w fun e w' => e = .returned (.func (.func 61) #[] #[.pointer (some ⟨w.heap.size, 0, none⟩)]) ∧ w' = w.alloc (.cells #[.string s] 9) := by
  have hmf : ∀ (fn : Fn) (first cap : Array Value) (w : World), (Instr.makeFunc fn first cap).run Tryd.prog w = .ok (.func fn first cap) w := fun _ _ _ _ => rfl
  go_enter Tryd.func43, Tryd.ntmps43
  go_wp2
  go_ret
  exact ⟨rfl, rfl⟩
set_option maxHeartbeats 8000000 in
theorem above_seq (s : ByteArray) (c : Nat) (hp : s.size ≤ 1000000) :
    SeqK Tryd.prog 61 #[.pointer (some ⟨c, 0, none⟩)] (fun i => #[upV s i]) (upsB s).length c 9 (upLeft s) (fun _ => True) := by
  intro l JA JB Jx Jp W hJA hJB hJx hK hS hKA hKB hY h0
  have hJK := hK
  have hN : 0 < (upsB s).length := (ups_ne _ _).1
  have hb0 : JB 0 W := by
    have h1 := hS 0 W hN h0
    have h2 : upLeft s 1 = upLeft s 0 := by show Value.string (mkB (upB s 0)) = .string s; rw [upB0, mkB_of]
    rw [h2, setCell_same (show Boxed W c 9 (upLeft s 0) from hK 0 W h0)] at h1
    exact h1
  obtain ⟨_, kb⟩ := hKB 0 W hb0
  refine callsIn_of_wp Tryd.func61 rfl trivial ?_ rfl
  simp only [Tryd.ntmps61, List.size_toArray, List.length_cons, List.length_nil, Nat.reduceAdd, Nat.reduceSub, Array.replicate_succ, Array.replicate_zero, List.push_toArray, List.append_toArray, List.nil_append, List.cons_append]
  gi_wp2
  clear kb
  gi_loopg [3] (upsB s).length (fun k _ wr => ∃ j : Nat, k + j = (upsB s).length ∧ j < (upsB s).length ∧ JB j wr)
  case atStart => exact ⟨0, by omega, hN, hb0⟩
  case round =>
    obtain ⟨j, hk, hlt, hj⟩ := hrel
    obtain ⟨_, kb⟩ := hKB j wr hj
    have kf := box_frozen kb
    have hY1 := fun A hA => hY j A hA hlt
    have hz : (mkB (upB s j)).size ≤ 1000000 := by rw [mkB_size]; have := upB_len s j; omega
    have hI := fun W => lastib_any (mkB (upB s j)) W hz
    rw [mkB_toList] at hI
    have kc : wr.cell? ⟨c, 0, none⟩ = some (.string (mkB (upB s j))) := box_cell kb
    have hsp := ups_spec s.data.toList.length s.data.toList (Nat.le_refl _) j hlt
    change (j + 1 < (upsB s).length ∧ 0 ≤ lastL (upB s j) ∧ upB s (j + 1) = (upB s j).take (lastL (upB s j)).toNat) ∨ (j + 1 = (upsB s).length ∧ lastL (upB s j) < 0) at hsp
    simp only [upV] at hY1
    have kcn : ∀ A, JA (j + 1) A → A.cell? ⟨c, 0, none⟩ = some (.string (mkB (upB s j))) := fun A hA => box_cell (hJK _ _ hA)
    rcases hsp with ⟨hnext, hpos, hup⟩ | ⟨hlast, hneg⟩
    · obtain ⟨gp, rfl⟩ : ∃ gp, gk = gp + 1 := ⟨gk - 1, by omega⟩
      have HGK := Lib.hid hk
      have HN := Lib.hid hnext
      have hS1 := fun A hA => hS (j + 1) A hnext hA
      have hcs : upLeft s (j + 1 + 1) = .string (mkB ((upB s j).take (lastL (upB s j)).toNat)) := by show Value.string (mkB (upB s (j + 1))) = _; rw [hup]
      rw [hcs] at hS1
      obtain ⟨n, hn⟩ : ∃ n : Nat, lastL (upB s j) = n := ⟨(lastL (upB s j)).toNat, by omega⟩
      have hnl : n < (upB s j).length := by have := last_pos hpos; omega
      rw [hn] at hI hS1
      simp only [Int.toNat_natCast] at hS1
      have s1 := fun w => str_to (mkB (upB s j)) n (by rw [mkB_size]; omega) w
      rw [mkB_toList] at s1
      have hp0 : ¬ (n : Int) < 0 := by omega
      have hle : n ≤ 1000000 := by have := upB_len s j; omega
      obtain ⟨R, hRR⟩ : ∃ R, mkB (upB s j) = R := ⟨_, rfl⟩
      rw [hRR] at kc hz
      simp only [hRR] at hI hY1 s1 kcn
      clear hRR kb hpos hup hnl hcs hk hnext hn
      generalize mkB ((upB s j).take n) = R2 at *
      obtain ⟨fn, tmps, assign, body, hy, hR⟩ := hY1 _ hj
      gi_wp2
      refine ⟨rfl, ?_⟩
      refine hR.mono ?_
      intro e W3 h3
      rcases yieldb_cases h3 with ⟨ch, rfl, hp3⟩ | ⟨t, rfl, h4⟩
      · exact ⟨rfl, .inr ⟨j, ch, hlt, rfl, hp3⟩⟩
      · clear h3
        rcases h4 with ⟨rfl, hj3⟩ | ⟨rfl, hx3⟩
        · have kc3 := kcn _ hj3
          have kf3 := box_frozen (hJK _ _ hj3)
          have hS3 := hS1 _ hj3
          clear kc kf kcn hj
          gi_wp2_with (refine ⟨trivial, rfl, ?_⟩; refine (callsIn_wide.2 (hI _)).mono ?_; rintro e w5 ⟨rfl, h5⟩; subst h5)
          gi_roundg gp
          case measure => omega
          case rel => exact ⟨j + 1, by have := HGK.out; omega, HN.out, hS3⟩
        · gi_wp2
          go_end0
          exact .inl ⟨⟨_, rfl⟩, .inr ⟨j, hlt, hx3⟩⟩
    · have HJ := Lib.hid hlast
      obtain ⟨R, hRR⟩ : ∃ R, mkB (upB s j) = R := ⟨_, rfl⟩
      rw [hRR] at kc hz
      simp only [hRR] at hI hY1 kcn
      clear hRR kb hlast hk
      generalize lastL (upB s j) = z at *
      obtain ⟨fn, tmps, assign, body, hy, hR⟩ := hY1 _ hj
      gi_wp2
      refine ⟨rfl, ?_⟩
      refine hR.mono ?_
      intro e W3 h3
      rcases yieldb_cases h3 with ⟨ch, rfl, hp3⟩ | ⟨t, rfl, h4⟩
      · exact ⟨rfl, .inr ⟨j, ch, hlt, rfl, hp3⟩⟩
      · clear h3
        rcases h4 with ⟨rfl, hj3⟩ | ⟨rfl, hx3⟩
        · have kc3 := kcn _ hj3
          clear kc kf kcn hj
          gi_wp2_with (refine ⟨trivial, rfl, ?_⟩; refine (callsIn_wide.2 (hI _)).mono ?_; rintro e w5 ⟨rfl, h5⟩; subst h5)
          refine bodyPost_ret (results_none rfl _ _ _) rfl ?_
          rw [HJ.out] at hj3
          exact .inl ⟨⟨_, rfl⟩, .inl hj3⟩
        · gi_wp2
          go_end0
          exact .inl ⟨⟨_, rfl⟩, .inr ⟨j, hlt, hx3⟩⟩
end
end Go.Proofs.YtaciedooeeklpaaDoor
