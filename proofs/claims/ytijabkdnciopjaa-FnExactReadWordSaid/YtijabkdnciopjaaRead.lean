/-
  READING A WORD OUT OF A TEXT: the plain law and the walks of both functions. No condition.
-/
import Derived.Test.YtijabkdnciopjaaWalksC
namespace Bw
def rdv (l : List UInt8) : Int := l.foldl (fun x c => 2 * x + ((c.toNat : Int) - 48)) 0
def isD (c : UInt8) : Bool := c == 48 || c == 49
def rdOk (l : List UInt8) : Bool := decide (1 ≤ l.length ∧ l.length ≤ 12) && l.all isD
def rdW (l : List UInt8) : Int := if rdOk l then (l.length : Int) else 0
def rdX (l : List UInt8) : Int := if rdOk l then rdv l else 0
theorem rdv_snoc (l : List UInt8) (c : UInt8) : rdv (l ++ [c]) = 2 * rdv l + ((c.toNat : Int) - 48) := by
  unfold rdv; rw [List.foldl_append]; rfl
theorem isD_iff (c : UInt8) : isD c = true ↔ ((c.toNat : Int) = 48 ∨ (c.toNat : Int) = 49) := by
  unfold isD
  simp only [Bool.or_eq_true, beq_iff_eq, ← UInt8.toNat_inj]
  show c.toNat = 48 ∨ c.toNat = 49 ↔ _
  omega
theorem take_snoc' (s : ByteArray) (k : Nat) (h : k < s.size) : s.data.toList.take (k + 1) = s.data.toList.take k ++ [s[k]] := by
  rw [List.take_succ_eq_append_getElem (by simpa using h)]; rfl
theorem rd_bd (l : List UInt8) (h : l.all isD = true) : 0 ≤ rdv l ∧ rdv l < pw l.length := by
  induction h' : l.length generalizing l with
  | zero => rw [List.length_eq_zero_iff] at h'; subst h'; simp [rdv, pw_0]
  | succ n ih =>
    obtain ⟨m, c, rfl⟩ : ∃ m c, l = m ++ [c] := by
      have hne : l ≠ [] := by intro e; subst e; simp at h'
      exact ⟨l.dropLast, l.getLast hne, (List.dropLast_concat_getLast hne).symm⟩
    simp only [List.all_append, List.all_cons, List.all_nil, Bool.and_true, Bool.and_eq_true] at h
    have hm : m.length = n := by simpa using h'
    have := ih m h.1 hm
    have hc := (isD_iff c).mp h.2
    rw [rdv_snoc, show ((n + 1 : Nat) : Int) = (n : Int) + 1 by omega, pw_succ (by omega)]
    omega
theorem rd_no (s : ByteArray) (k : Nat) (h : k < s.size) (hc : isD s[k] = false) : rdOk s.data.toList = false := by
  unfold rdOk
  have : s.data.toList.all isD = false := by
    rw [← Bool.not_eq_true, List.all_eq_true]
    intro ha
    have hm : s[k] ∈ s.data.toList := by
      have : s[k] = s.data.toList[k]'(by simpa using h) := rfl
      rw [this]; exact List.getElem_mem _
    rw [ha _ hm] at hc; cases hc
  rw [this]; simp
theorem rd_len (s : ByteArray) (h : ¬ (1 ≤ s.size ∧ s.size ≤ 12)) : rdOk s.data.toList = false := by
  unfold rdOk
  have : s.data.toList.length = s.size := by simp
  rw [this]; simp [h]
theorem rd_yes (s : ByteArray) (h : 1 ≤ s.size ∧ s.size ≤ 12) (ha : s.data.toList.all isD = true) : rdOk s.data.toList = true := by
  unfold rdOk
  have : s.data.toList.length = s.size := by simp
  rw [this, ha]; simp [h]
theorem bytes_empty (s : ByteArray) : s.toList.isEmpty = decide (s.size = 0) := by
  rw [Go.ByteArray.toList_eq]
  have : s.data.toList.length = s.size := by simp
  cases h : s.data.toList with
  | nil => rw [h] at this; simp at this; simp [← this]
  | cons a l => rw [h] at this; simp at this; simp [← this]
theorem rd_none {l : List UInt8} (h : rdOk l = false) : rdW l = 0 ∧ rdX l = 0 := by unfold rdW rdX; simp [h]
theorem rd_some {s : ByteArray} (h : rdOk s.data.toList = true) : rdW s.data.toList = s.size ∧ rdX s.data.toList = rdv s.data.toList := by
  unfold rdW rdX; rw [h]; simp
end Bw
namespace Go.Proofs.Ytijabkdnciopjaa
open Go Go.RowKit Bw
set_option linter.unusedVariables false
theorem ret_tup' {a b c d : Int} {x y : Bool} (h : b = a) (h' : d = c) (hx : y = x) : Ending.returned (.tuple #[.int .i64 a, .int .i64 c, .bool x]) = .returned (.tuple #[.int .i64 b, .int .i64 d, .bool y]) := by rw [h, h', hx]
set_option maxHeartbeats 400000 in
theorem readI_any (s : ByteArray) (w : World) (hs : s.size ≤ maxLen) :
    Calls Try.prog 22 #[.string s] w fun e w' => e = .returned (.tuple #[.int .i64 (rdW s.data.toList), .int .i64 (rdX s.data.toList), .bool (rdOk s.data.toList)]) ∧ w = w' := by
  unfold maxLen at hs
  by_cases hl : 1 ≤ s.size ∧ s.size ≤ 12
  · have hv : vW (s.size : Int) = true := vW_iff.mpr (by omega)
    have h1 := hl.1
    have h2 := hl.2
    have HL := Lib.hid hl
    clear hl
    go_enter Try.func22, Try.ntmps22
    go_wp2_with (go_at_call 38; refine (isWidth_any _ _).mono ?_; rintro e w' ⟨rfl, rfl⟩)
    go_loop [5, 13] (fun x i => ∃ k : Nat, k ≤ s.size ∧ i = .int .i64 k ∧ x = .int .i64 (rdv (s.data.toList.take k)) ∧ (s.data.toList.take k).all isD = true) (fun _ i => s.size - (intOf i).toNat)
    case atStart => exact ⟨0, Nat.zero_le _, rfl, rfl, rfl⟩
    case round =>
      obtain ⟨k, hk, rfl, rfl, ha⟩ := hrel
      have hb := rd_bd _ ha
      have HA := Lib.hid ha
      clear ha
      have hp : pw ((s.data.toList.take k).length : Int) ≤ 4096 := pw_le12 (by have : (s.data.toList.take k).length ≤ k := List.length_take_le _ _; omega)
      by_cases hlt : k < s.size
      · have hsn := rdv_snoc (s.data.toList.take k) s[k]
        have hts := take_snoc' s k hlt
        have hd := isD_iff s[k]
        rw [← hts] at hsn
        have HT := Lib.hid hts
        have HS := Lib.hid hsn
        have HD := Lib.hid hd
        clear hsn hts hd
        by_cases hdig : isD s[k] = true
        · have hc := HD.out.mp hdig
          have HG := Lib.hid hdig
          clear hdig
          have HC := Lib.hid (show (s.data.toList.take (k + 1)).all isD = true by rw [HT.out, List.all_append, HA.out]; simp [HG.out])
          rcases hc with hc | hc
          all_goals
            have c1 : 48 ≤ (s[k].toNat : Int) := by omega
            have c2 : (s[k].toNat : Int) ≤ 49 := by omega
            have XC := Lib.hid hc
            first
              | (have e1 : ((s[k].toNat : Int) != 48) = true := by rw [XC.out]; rfl
                 have e2 : ((s[k].toNat : Int) != 49) = false := by rw [XC.out]; rfl
                 clear hc
                 go_wp2
                 go_round
                 case rel => exact ⟨k + 1, by omega, by go_num, by rw [HS.out], HC.out⟩
                 case measure => simp [intOf]; omega)
              | (have e1 : ((s[k].toNat : Int) != 48) = false := by rw [XC.out]; rfl
                 clear hc
                 go_wp2
                 go_round
                 case rel => exact ⟨k + 1, by omega, by go_num, by rw [HS.out], HC.out⟩
                 case measure => simp [intOf]; omega)
        · have hno : isD s[k] = false := by simpa using hdig
          have hok := rd_no s k hlt hno
          have hc : (s[k].toNat : Int) ≠ 48 ∧ (s[k].toNat : Int) ≠ 49 := by
            constructor <;> intro e <;> exact hdig (HD.out.mpr (by omega))
          have e1 : ((s[k].toNat : Int) != 48) = true := by simpa using hc.1
          have e2 : ((s[k].toNat : Int) != 49) = true := by simpa using hc.2
          have HO := Lib.hid hok
          clear hok hc hno hdig
          go_wp2
          go_ret3
          exact ⟨ret_tup' (rd_none HO.out).1 (rd_none HO.out).2 HO.out, rfl⟩
      · obtain rfl : k = s.size := by omega
        have hall : s.data.toList.all isD = true := by have := HA.out; rwa [List.take_of_length_le (by simp)] at this
        have HO := Lib.hid (rd_yes s HL.out hall)
        clear hall
        go_wp2
        go_ret3
        exact ⟨ret_tup' (rd_some HO.out).1 (by rw [(rd_some HO.out).2, List.take_of_length_le (by simp)]) HO.out, rfl⟩
  · have hv : vW (s.size : Int) = false := by rw [← Bool.not_eq_true, vW_iff]; omega
    have HO := Lib.hid (rd_len s hl)
    clear hl
    go_enter Try.func22, Try.ntmps22
    go_wp2_with (go_at_call 38; refine (isWidth_any _ _).mono ?_; rintro e w' ⟨rfl, rfl⟩)
    go_ret3
    exact ⟨ret_tup' (rd_none HO.out).1 (rd_none HO.out).2 HO.out, rfl⟩
set_option maxHeartbeats 400000 in
theorem readS_any (s : ByteArray) (w : World) (hs : s.size ≤ maxLen) :
    Calls Try.prog 21 #[.string s] w fun e w' => e = .returned (.tuple #[.int .i64 (rdW s.data.toList), .int .i64 (rdX s.data.toList), .bool (rdOk s.data.toList)]) ∧ w = w' := by
  unfold maxLen at hs
  by_cases hl : 1 ≤ s.size ∧ s.size ≤ 12
  · have hv : vW (s.size : Int) = true := vW_iff.mpr (by omega)
    have h1 := hl.1
    have h2 := hl.2
    have HL := Lib.hid hl
    clear hl
    go_enter Try.func21, Try.ntmps21
    have hgt : ¬ (12 : Int) < (s.size : Int) := by omega
    have hne : s.toList.isEmpty = false := by rw [bytes_empty]; exact decide_eq_false (by omega)
    go_wp2
    go_loop [5, 6] (fun x i => ∃ k : Nat, k ≤ s.size ∧ i = .int .i64 k ∧ x = .int .i64 (rdv (s.data.toList.take k)) ∧ (s.data.toList.take k).all isD = true) (fun _ i => s.size - (intOf i).toNat)
    case atStart => exact ⟨0, Nat.zero_le _, rfl, rfl, rfl⟩
    case round =>
      obtain ⟨k, hk, rfl, rfl, ha⟩ := hrel
      have hb := rd_bd _ ha
      have HA := Lib.hid ha
      clear ha
      have hp : pw ((s.data.toList.take k).length : Int) ≤ 4096 := pw_le12 (by have : (s.data.toList.take k).length ≤ k := List.length_take_le _ _; omega)
      by_cases hlt : k < s.size
      · have hsn := rdv_snoc (s.data.toList.take k) s[k]
        have hts := take_snoc' s k hlt
        have hd := isD_iff s[k]
        rw [← hts] at hsn
        have HT := Lib.hid hts
        have HS := Lib.hid hsn
        have HD := Lib.hid hd
        clear hsn hts hd
        by_cases hdig : isD s[k] = true
        · have hc := HD.out.mp hdig
          have HG := Lib.hid hdig
          clear hdig
          have HC := Lib.hid (show (s.data.toList.take (k + 1)).all isD = true by rw [HT.out, List.all_append, HA.out]; simp [HG.out])
          rcases hc with hc | hc
          all_goals
            have c1 : 48 ≤ (s[k].toNat : Int) := by omega
            have c2 : (s[k].toNat : Int) ≤ 49 := by omega
            have XC := Lib.hid hc
            first
              | (have e1 : ((s[k].toNat : Int) != 48) = true := by rw [XC.out]; rfl
                 have e2 : ((s[k].toNat : Int) != 49) = false := by rw [XC.out]; rfl
                 clear hc
                 go_wp2
                 go_round
                 case rel => exact ⟨k + 1, by omega, by go_num, by rw [HS.out], HC.out⟩
                 case measure => simp [intOf]; omega)
              | (have e1 : ((s[k].toNat : Int) != 48) = false := by rw [XC.out]; rfl
                 clear hc
                 go_wp2
                 go_round
                 case rel => exact ⟨k + 1, by omega, by go_num, by rw [HS.out], HC.out⟩
                 case measure => simp [intOf]; omega)
        · have hno : isD s[k] = false := by simpa using hdig
          have hok := rd_no s k hlt hno
          have hc : (s[k].toNat : Int) ≠ 48 ∧ (s[k].toNat : Int) ≠ 49 := by
            constructor <;> intro e <;> exact hdig (HD.out.mpr (by omega))
          have e1 : ((s[k].toNat : Int) != 48) = true := by simpa using hc.1
          have e2 : ((s[k].toNat : Int) != 49) = true := by simpa using hc.2
          have HO := Lib.hid hok
          clear hok hc hno hdig
          go_wp2
          go_ret3
          exact ⟨ret_tup' (rd_none HO.out).1 (rd_none HO.out).2 HO.out, rfl⟩
      · obtain rfl : k = s.size := by omega
        have hall : s.data.toList.all isD = true := by have := HA.out; rwa [List.take_of_length_le (by simp)] at this
        have HO := Lib.hid (rd_yes s HL.out hall)
        clear hall
        go_wp2
        go_ret3
        exact ⟨ret_tup' (rd_some HO.out).1 (by rw [(rd_some HO.out).2, List.take_of_length_le (by simp)]) HO.out, rfl⟩
  · have HO := Lib.hid (rd_len s hl)
    by_cases h0 : s.size = 0
    · have hne : s.toList.isEmpty = true := by rw [bytes_empty]; simpa using h0
      clear hl
      go_enter Try.func21, Try.ntmps21
      go_wp2
      go_loop [5, 6] (fun x i => x = .int .i64 0 ∧ i = .int .i64 0) (fun _ i => 0)
      case atStart => exact ⟨rfl, rfl⟩
      case round =>
        obtain ⟨rfl, rfl⟩ := hrel
        go_wp2
        go_ret3
        exact ⟨ret_tup' (rd_none HO.out).1 (rd_none HO.out).2 HO.out, rfl⟩
    · have hgt : (12 : Int) < (s.size : Int) := by omega
      have hp : (0 : Int) < (s.size : Int) := by omega
      have hp' : 0 < s.size := by omega
      clear hl h0
      go_enter Try.func21, Try.ntmps21
      go_wp2
      go_loop [5, 6] (fun x i => x = .int .i64 0 ∧ i = .int .i64 0) (fun _ i => 0)
      case atStart => exact ⟨rfl, rfl⟩
      case round =>
        obtain ⟨rfl, rfl⟩ := hrel
        by_cases d0 : ((s[0].toNat : Int) != 48) = true
        · by_cases d1 : ((s[0].toNat : Int) != 49) = true
          · go_wp2
            go_ret3
            exact ⟨ret_tup' (rd_none HO.out).1 (rd_none HO.out).2 HO.out, rfl⟩
          · have d1 : ((s[0].toNat : Int) != 49) = false := by simpa using d1
            go_wp2
            go_ret3
            exact ⟨ret_tup' (rd_none HO.out).1 (rd_none HO.out).2 HO.out, rfl⟩
        · have d0 : ((s[0].toNat : Int) != 48) = false := by simpa using d0
          go_wp2
          go_ret3
          exact ⟨ret_tup' (rd_none HO.out).1 (rd_none HO.out).2 HO.out, rfl⟩
end Go.Proofs.Ytijabkdnciopjaa
