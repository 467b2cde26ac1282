/- Slices of texts; texts cut at a byte, as byte arrays. -/
import Derived.Test.YtpobjheodlkkiaaGreatDoorGen
import Derived.Test.YtpobjheodlkkiaaGreatDoorTxD
namespace Go.Proofs.YtpobjheodlkkiaaGreatDoor
open Go.RowKit
set_option linter.unusedVariables false
set_option linter.unusedSimpArgs false
set_option linter.unusedSectionVars false
set_option maxRecDepth 20000
abbrev csS (x : ByteArray) : List Value := [.string x]
theorem elemS : ElemG csS 50 9 1 16 where
  ht := Tryz.underlying50
  info := by
    have h : (Tryz.prog.info? 9).map (fun i => (i.zero, i.size, i.bytes)) = some (some (.string ⟨#[]⟩), 1, 16) := by kernel_rfl
    cases hq : Tryz.prog.info? 9 with
    | none => simp [hq] at h
    | some i => simp [hq] at h; exact ⟨i, _, rfl, h.1, h.2.1, h.2.2, rfl⟩
  k0 := by omega
  hk := fun _ => rfl
  one := fun x u hu => by
    simp at hu
    subst hu; rfl
abbrev SlS := @SlG ByteArray csS
abbrev OwnS (w : World) (base : Nat) (v : Value) (l : List ByteArray) : Prop := OwnG csS 9 1 w base v l
def mkB (l : List UInt8) : ByteArray := ⟨l.toArray⟩
theorem mkB_toList (l : List UInt8) : (mkB l).data.toList = l := rfl
theorem mkB_of (s : ByteArray) : mkB s.data.toList = s := rfl
theorem mkB_size (l : List UInt8) : (mkB l).size = l.length := by show l.toArray.size = _; simp
theorem mkB_inj {a b : List UInt8} (h : mkB a = mkB b) : a = b := by have := congrArg (fun x : ByteArray => x.data.toList) h; exact this
/-- a text cut at each byte c -/
def cutB (c : UInt8) (s : ByteArray) : List ByteArray := (cutC c s.data.toList).map mkB
theorem cutB_size (c : UInt8) (s : ByteArray) : (cutB c s).length ≤ s.size + 1 := by
  unfold cutB
  rw [List.length_map]
  have := cutC_len c s.data.toList
  have h : s.data.toList.length = s.size := by simp
  omega
theorem cutB_pos (c : UInt8) (s : ByteArray) : 1 ≤ (cutB c s).length := by
  unfold cutB
  rw [List.length_map]
  cases h : cutC c s.data.toList with
  | nil => exact absurd h (cutC_ne _ _)
  | cons a l => simp
theorem splitB_cut (c : UInt8) (s : ByteArray) : Lib.splitB ⟨#[c]⟩ 0 (Lib.countB s ⟨#[c]⟩) s = cutB c s := by
  have h1 := Lib.splitB_data ⟨#[c]⟩ 0 (Lib.countB s ⟨#[c]⟩) s
  have h2 := split_cut c s.data.toList.length s.data.toList (Nat.le_refl _)
  have h3 : (Lib.splitB ⟨#[c]⟩ 0 (Lib.countB s ⟨#[c]⟩) s).map (·.data.toList) = cutC c s.data.toList := h1.trans h2
  unfold cutB
  rw [← h3, List.map_map]
  symm
  exact List.map_id'' (fun x => rfl) _
theorem countB_cut (c : UInt8) (s : ByteArray) : Lib.countB s ⟨#[c]⟩ + 1 = (cutB c s).length := by
  unfold cutB
  rw [List.length_map]
  exact count_cut c s.data.toList
theorem extract_mk (s : ByteArray) (a b : Nat) : s.extract a b = mkB ((s.data.toList.take b).drop a) := by
  apply ByteArray.ext
  rw [ByteArray.data_extract]
  apply Array.ext'
  show _ = (s.data.toList.take b).drop a
  rw [Array.toList_extract, List.extract_eq_take_drop, List.drop_take]
theorem str_one (s : ByteArray) (k : Nat) (hk : k < s.size) (w : World) : (Instr.slice 9 (.string s) (some (.int .i64 (k : Int))) (some (.int .i64 ((k : Int) + 1))) none).run Tryz.prog w = .ok (.string ⟨#[byteU s k]⟩) w := by
  rw [run_slice_string (P := Tryz.prog) w 9 s .i64 .i64 (k : Int) ((k : Int) + 1) Tryz.underlying9 (by omega) (by omega) (by omega)]
  rw [show ((k : Int)).toNat = k from rfl, show ((k : Int) + 1).toNat = k + 1 from by omega, extract_mk]
  have h' : k < s.data.toList.length := by simpa using hk
  have : (s.data.toList.take (k + 1)).drop k = [byteU s k] := by
    rw [List.drop_take, Nat.add_sub_cancel_left, byteU_drop s k hk]
    rfl
  rw [this]
  rfl
theorem str_mid (s : ByteArray) (a b : Nat) (h1 : a ≤ b) (h2 : b ≤ s.size) (w : World) : (Instr.slice 9 (.string s) (some (.int .i64 (a : Int))) (some (.int .i64 (b : Int))) none).run Tryz.prog w = .ok (.string (mkB ((s.data.toList.take b).drop a))) w := by
  rw [run_slice_string (P := Tryz.prog) w 9 s .i64 .i64 (a : Int) (b : Int) Tryz.underlying9 (by omega) (by omega) (by omega)]
  rw [show ((a : Int)).toNat = a from rfl, show ((b : Int)).toNat = b from rfl, extract_mk]
theorem str_from (s : ByteArray) (a : Nat) (h2 : a ≤ s.size) (w : World) : (Instr.slice 9 (.string s) (some (.int .i64 (a : Int))) none none).run Tryz.prog w = .ok (.string (mkB (s.data.toList.drop a))) w := by
  rw [run_slice_string_l (P := Tryz.prog) w 9 s Tryz.underlying9 .i64 (a : Int) (by omega) (by omega)]
  rw [show ((a : Int)).toNat = a from rfl, extract_mk, List.take_of_length_le (by simp)]
theorem str_to (s : ByteArray) (b : Nat) (h2 : b ≤ s.size) (w : World) : (Instr.slice 9 (.string s) none (some (.int .i64 (b : Int))) none).run Tryz.prog w = .ok (.string (mkB (s.data.toList.take b))) w := by
  rw [run_slice_string_h (P := Tryz.prog) w 9 s Tryz.underlying9 .i64 (b : Int) (by omega) (by omega)]
  rw [show ((b : Int)).toNat = b from rfl, extract_mk, List.drop_zero]
theorem one_ne {a c : UInt8} (h : a ≠ c) : ((⟨#[a]⟩ : ByteArray).toList == (⟨#[c]⟩ : ByteArray).toList) = false := by
  rw [Lib.toList_data, Lib.toList_data]
  simpa using h
end Go.Proofs.YtpobjheodlkkiaaGreatDoor
