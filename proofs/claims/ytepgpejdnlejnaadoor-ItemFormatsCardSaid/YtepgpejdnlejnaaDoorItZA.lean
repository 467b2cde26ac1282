/- ItemFormats: Hash of both; the items of the walks and those of the plain law. -/
import Derived.Test.YtepgpejdnlejnaaDoorItFA
import Derived.Test.YtepgpejdnlejnaaDoorQ08
import Derived.Test.YtepgpejdnlejnaaDoorQ07
import Derived.Test.YtepgpejdnlejnaaDoorTxS
namespace Go.Proofs.YtepgpejdnlejnaaDoor
open Go.RowKit
set_option linter.unusedVariables false
set_option linter.unusedSimpArgs false
set_option linter.unusedSectionVars false
set_option maxRecDepth 100000
attribute [local go_sem] Oper.semAt_some

def hstep (h : Int) (c : UInt8) : Int := IntKind.u64.wrap (bits .xor .u64 h (c.toNat : Int) * 1099511628211)
def hashN (s : ByteArray) : Nat → Int
  | 0 => 14695981039346656037
  | n + 1 => hstep (hashN s n) (byteU s n)
def hashF (s : ByteArray) : Int := hashN s s.size
theorem hash_any (s : ByteArray) (w : World) (hs : s.size ≤ 140737488355328) :
    Calls Tryd.prog 50 #[.string s] w fun e w' => e = .returned (.int .u64 (hashF s)) ∧ w = w' := by
  go_enter Tryd.func50, Tryd.ntmps50
  go_wp2
  go_loopw [7, 3, 4] (fun i v _ wr => ∃ k : Nat, k ≤ s.size ∧ i = .int .i64 k ∧ v = .int .u64 (hashN s k) ∧ w = wr) (fun i _ _ _ => s.size - (intOf i).toNat)
  case atStart => exact ⟨0, by omega, rfl, rfl, rfl⟩
  case round =>
    obtain ⟨k, hk, rfl, rfl, rfl⟩ := hrel
    by_cases hlt : k < s.size
    · have c1 : (k : Int) < s.size := by omega
      have d1 : IntKind.i64.wrap ((k : Int) + 1) = (k : Int) + 1 := IntWalk.i64_in _ ⟨by omega, by omega⟩
      have hi := fun W => str_index s k hlt W
      rw [byteU_Nall] at hi
      have HS := Lib.hid (show hashN s (k + 1) = hstep (hashN s k) (byteU s k) from rfl)
      unfold hstep at HS
      have hc := (byteU s k).toNat_lt
      have d2 : IntKind.u64.wrap ((byteU s k).toNat : Int) = ((byteU s k).toNat : Int) := by simp [IntKind.wrap, IntKind.bits, IntKind.signed]; omega
      generalize byteU s k = u at *
      generalize hashN s k = h at *
      go_wp2
      go_roundw
      case rel => exact ⟨k + 1, by omega, by go_num, by rw [HS.out], by first | trivial | rfl⟩
      case measure => simp [intOf]; omega
    · obtain rfl : k = s.size := by omega
      go_wp2
      go_ret
      exact ⟨rfl, rfl⟩
theorem rhash_any (s : ByteArray) (w : World) (hs : s.size ≤ 140737488355328) :
    Calls Tryd.prog 51 #[.string s] w fun e w' => e = .returned (.int .u64 (hashF s)) ∧ w = w' := by
  go_enter Tryd.func51, Tryd.ntmps51
  go_wp2
  go_loopw [4, 3] (fun i v wr => ∃ k : Nat, k ≤ s.size ∧ i = .int .i64 k ∧ v = .int .u64 (hashN s k) ∧ w = wr) (fun i _ _ => s.size - (intOf i).toNat)
  case atStart => exact ⟨0, by omega, rfl, rfl, rfl⟩
  case round =>
    obtain ⟨k, hk, rfl, rfl, rfl⟩ := hrel
    by_cases hlt : k < s.size
    · have c1 : (k : Int) < s.size := by omega
      have d1 : IntKind.i64.wrap ((k : Int) + 1) = (k : Int) + 1 := IntWalk.i64_in _ ⟨by omega, by omega⟩
      have hi := fun W => str_index s k hlt W
      rw [byteU_Nall] at hi
      have HS := Lib.hid (show hashN s (k + 1) = hstep (hashN s k) (byteU s k) from rfl)
      unfold hstep at HS
      have hc := (byteU s k).toNat_lt
      have d2 : IntKind.u64.wrap ((byteU s k).toNat : Int) = ((byteU s k).toNat : Int) := by simp [IntKind.wrap, IntKind.bits, IntKind.signed]; omega
      generalize byteU s k = u at *
      generalize hashN s k = h at *
      go_wp2
      go_roundw
      case rel => exact ⟨k + 1, by omega, by go_num, by rw [HS.out], by first | trivial | rfl⟩
      case measure => simp [intOf]; omega
    · obtain rfl : k = s.size := by omega
      go_wp2
      go_ret
      exact ⟨rfl, rfl⟩
def toI (x : It) : ItP := (x.1.data.toList, x.2.1, x.2.2.1, x.2.2.2.1, x.2.2.2.2)
def ofI (y : ItP) : It := (⟨y.1.toArray⟩, y.2.1, y.2.2.1, y.2.2.2.1, y.2.2.2.2)
theorem ofI_toI (x : It) : ofI (toI x) = x := rfl
theorem toI_ofI (y : ItP) : toI (ofI y) = y := by simp [toI, ofI]
def itemsP (l : List ItP) : Bool := itemsB (l.map ofI)
theorem itemsP_map (l : List It) : itemsP (l.map toI) = itemsB l := by
  unfold itemsP
  rw [List.map_map, show ofI ∘ toI = id from rfl, List.map_id]
theorem toI_inj {l m : List It} (h : l.map toI = m.map toI) : l = m := by
  have := congrArg (List.map ofI) h
  rw [List.map_map, List.map_map, show ofI ∘ toI = id from rfl, List.map_id, List.map_id] at this
  exact this
theorem bytes_get' (s : ByteArray) (i : Nat) (h : i < s.size) : s.data.toList[i]? = some (byteU s i) := by
  have h' : i < s.data.toList.length := by simpa using h
  unfold byteU
  rw [List.getD_eq_getElem?_getD, List.getElem?_eq_getElem h']
  rfl
theorem name_no {s : ByteArray} (h : nameF s = true) (c : UInt8) (hc : innerB (c.toNat : Int) = false) : c ∉ s.data.toList := by
  intro hm
  obtain ⟨i, hi⟩ := List.mem_iff_getElem?.1 hm
  have hlt : i < s.size := by
    have := (List.getElem?_eq_some_iff.1 hi).1
    simpa using this
  have h3 := (nameF_iff.1 h).2.2 i hlt
  rw [bytes_get' s i hlt] at hi
  injection hi with hi
  rw [byteU_Nall, hi, hc] at h3
  cases h3
theorem itemB_ok {x : It} (h : itemB x = true) : ItOkP (toI x) := by
  unfold itemB at h
  rw [Bool.and_eq_true] at h
  obtain ⟨h1, h2⟩ := h
  refine ⟨name_no h1 32 (by decide), name_no h1 59 (by decide), ?_⟩
  by_cases hk : x.2.1 = 1
  · rw [if_pos hk] at h2
    have h2 := of_decide_eq_true h2
    exact .inl ⟨hk, h2.2.2.2, by show -1000000000 ≤ x.2.2.1; omega, by show x.2.2.1 ≤ 1000000000; omega, by show -1000000000 ≤ x.2.2.2.1; omega, by show x.2.2.2.1 ≤ 1000000000; omega⟩
  · rw [if_neg hk] at h2
    have h2 := of_decide_eq_true h2
    exact .inr ⟨h2.1, h2.2.2.2.1, h2.2.2.2.2, h2.2.1, h2.2.2.1⟩
theorem itemsP_ok (l : List ItP) (h : itemsP l = true) : l ≠ [] ∧ ∀ x ∈ l, ItOkP x := by
  unfold itemsP itemsB at h
  rw [Bool.and_eq_true] at h
  obtain ⟨h0, h1⟩ := h
  have h0 := of_decide_eq_true h0
  refine ⟨fun e => by rw [e] at h0; simp at h0, fun y hy => ?_⟩
  have hall : ∀ i, i < (l.map ofI).length → goodT (l.map ofI) i := by
    unfold knownB at h1
    rw [Bool.and_eq_true] at h1
    have := h1.1
    simpa using this
  obtain ⟨i, hi⟩ := List.mem_iff_getElem?.1 hy
  have hlt := (List.getElem?_eq_some_iff.1 hi).1
  have hg := (hall i (by rw [List.length_map]; exact hlt)).1
  have e : nthT (l.map ofI) i = ofI y := by
    unfold nthT
    rw [List.getD_eq_getElem?_getD, List.getElem?_map, hi]
    rfl
  rw [e] at hg
  have := itemB_ok hg
  rw [toI_ofI] at this
  exact this
end Go.Proofs.YtepgpejdnlejnaaDoor
