/-
  THE WALKS OF the sum that carries make, the program's and the reference's, and of the laws' copy of a list. Conditions: the list can be read, and is not longer than 2^20.
-/
import Derived.Test.YthhehbcnpmjicaaListsB
import Derived.Test.YthhehbcnpmjicaaRow
namespace Go.Proofs.Ythhehbcnpmjicaa
open Go Go.RowKit Bw
set_option linter.unusedVariables false
/-! ### the plain function -/
def csumF (k a b : Int) (l : List Int) : Int := if v2 k a b && (decide (k.toNat ≤ l.length) && l.all vbit) then csum k a b (fun i => l.getD i 0) else -1
theorem csumF_no {k a b : Int} {l : List Int} (h : v2 k a b = false) : csumF k a b l = -1 := by unfold csumF; rw [h]; rfl
theorem csumF_short {k a b : Int} {l : List Int} (h : l.length < k.toNat) : csumF k a b l = -1 := by
  unfold csumF; rw [show decide (k.toNat ≤ l.length) = false from decide_eq_false (by omega)]; simp
theorem csumF_bad {k a b : Int} {l : List Int} (n : Nat) (hn : n < l.length) (h : vbit (l.getD n 0) = false) : csumF k a b l = -1 := by
  have : l.all vbit = false := by
    rw [← Bool.not_eq_true, List.all_eq_true]
    intro hh
    have e := hh _ (getD_mem l n hn)
    rw [h] at e; cases e
  unfold csumF; rw [this]; simp
theorem csumF_ok {k a b : Int} {l : List Int} (h : v2 k a b = true) (hk : k.toNat ≤ l.length) (hl : ∀ j, j < l.length → vbit (l.getD j 0) = true) : csumF k a b l = csum k a b (fun i => l.getD i 0) := by
  have : l.all vbit = true := by
    rw [List.all_eq_true]
    intro x hx
    obtain ⟨j, hj, rfl⟩ := List.getElem_of_mem hx
    have := hl j hj
    simpa [List.getD, hj] using this
  unfold csumF; rw [h, this, decide_eq_true hk]; rfl
theorem Rd.slice {w : World} {v : Value} {l : List Int} (h : Rd w v l) : ∃ x c, v = .slice x l.length c := by
  rcases h with ⟨rfl, rfl⟩ | ⟨b, cap, rfl, _⟩
  · exact ⟨_, _, rfl⟩
  · exact ⟨_, _, rfl⟩
theorem Rd.at_ {w : World} {v : Value} {l : List Int} (h : Rd w v l) (hl : 0 < l.length) :
    ∃ g c, v = .slice (some ⟨g, 0, none⟩) l.length c ∧ g < w.heap.size ∧ ∀ j, j < l.length → w.cell? ⟨g, j, none⟩ = some (.int .i64 (l.getD j 0)) := by
  rcases h with ⟨rfl, rfl⟩ | ⟨b, cap, rfl, hb, hc⟩
  · simp at hl
  · exact ⟨_, _, rfl, hb, hc⟩
theorem IsRow.below {k : IntKind} {w w' : World} {a : Option Addr} {len cap : Nat} {zs : List Int} (h : IsRow k w a len cap zs) (hb : Below w.heap.size w w') : IsRow k w' a len cap zs := by
  rcases h with h | ⟨x, ha, h1, h2, hz, hc, hw⟩
  · exact .inl h
  · exact .inr ⟨x, ha, h1, h2, hz, fun i hi => (hb.cell (World.block_lt_of_cell? w _ (hc i hi))).trans (hc i hi), hw⟩
theorem vbit_bd {c : Int} (h : vbit c = true) : 0 ≤ c ∧ c ≤ 1 := by have := vbit_iff.mp h; omega
theorem bit_pw {c : Int} (h : 0 ≤ c ∧ c ≤ 1) (n : Nat) (hn : n ≤ 12) : 0 ≤ c * pw n ∧ c * pw n ≤ 4096 := by
  have hp := pw_pos (n : Int)
  have := pw_le12 (k := (n : Int)) (by omega)
  rcases (show c = 0 ∨ c = 1 by omega) with e | e <;> rw [e] <;> omega
/-! ### the program's -/
theorem csumI_any (k a b : Int) (v : Value) (l : List Int) (w : World) (hr : Rd w v l) (hlen : l.length ≤ 1048576) :
    Calls Try.prog 28 #[.int .i64 k, .int .i64 a, .int .i64 b, v] w fun e w' => e = .returned (.int .i64 (csumF k a b l)) ∧ Below w.heap.size w w' := by
  by_cases h : v2 k a b = true
  · obtain ⟨h1, h2, h3, h4, h5, h6, h12⟩ := v2_bd h
    obtain ⟨K, rfl⟩ : ∃ K : Nat, k = (K : Int) := ⟨k.toNat, by omega⟩
    by_cases hk : (l.length : Int) < (K : Int)
    · have E := Lib.hid (csumF_short (k := K) (a := a) (b := b) (l := l) (by omega))
      obtain ⟨x, c, rfl⟩ := hr.slice
      clear hr
      go_enter Try.func28, Try.ntmps28
      go_wp2_with ((go_at_call 56; refine (allValid2_any _ _ _ _ _ (by first | rfl | simp)).mono ?_; rintro e w' ⟨rfl, rfl⟩))
      go_ret
      exact ⟨ret_int E.out.symm, below_new1 _ _⟩
    · obtain ⟨g, c, rfl, hg, hcell⟩ := hr.at_ (by omega)
      have HC := Lib.hid hcell
      have HV := Lib.hid h
      have y12 := pw_12
      have x1 := bits_xor (a := a) (b := b) (by omega) (by omega) (by omega) (by omega)
      have y1 := xorI_lt (k := 12) h3 h5 (by omega) (by omega)
      have HS := Lib.hid (fun n hn hf => xor_step (X := xorI a b) (f := fun j => l.getD j 0) n y1.1 hf rfl : ∀ n : Nat, n < 12 → (∀ i, i < n + 1 → 0 ≤ l.getD i 0 ∧ l.getD i 0 ≤ 1) → _)
      have hk2 : (K : Int) ≤ (l.length : Int) := by omega
      have hd1 : decide (l.length < K) = false := decide_eq_false (by omega)
      have hd2 : decide ((l.length : Int) < (K : Int)) = false := decide_eq_false (by omega)
      clear hr hcell h
      go_enter Try.func28, Try.ntmps28
      go_wp2_with ((go_at_call 56; refine (allValid2_any _ _ _ _ _ (by first | rfl | simp)).mono ?_; rintro e w' ⟨rfl, rfl⟩))
      go_loopw [9, 29] (fun o i wr => ∃ n : Nat, n ≤ l.length ∧ i = .int .i64 n ∧ o = .int .i64 (xorI (xorI a b) (sumTo (fun j => l.getD j 0) (min n K))) ∧ (∀ j, j < n → vbit (l.getD j 0) = true) ∧ Below w.heap.size w wr) (fun _ i _ => l.length - (intOf i).toNat)
      case atStart =>
        refine ⟨0, Nat.zero_le _, rfl, ?_, fun j hj => by omega, below_new1 _ _⟩
        rw [Nat.zero_min, show sumTo (fun j => l.getD j 0) 0 = 0 from rfl, show xorI (xorI a b) 0 = xorI a b by unfold xorI; simp]
      case round =>
        obtain ⟨n, hn, rfl, ho, hall, hb⟩ := hrel
        have HALL := Lib.hid hall
        clear hall
        by_cases hlt : n < l.length
        · have c1 := (hb.cell (p := ⟨g, n, none⟩) hg).trans (HC.out n hlt)
          have k0 : (0 : Int) ≤ (n : Int) := by omega
          have k1 : (n : Int) < (l.length : Int) := by omega
          by_cases hv : vbit (l.getD n 0) = true
          · have HALL2 := Lib.hid (fun j hj => by
              rcases (show j < n ∨ j = n by omega) with h | h
              · exact HALL.out j h
              · subst h; exact hv : ∀ j, j < n + 1 → vbit (l.getD j 0) = true)
            have hc := vbit_bd hv
            by_cases hnk : n < K
            · have hst := HS.out n (by omega) (fun i hi => vbit_bd (HALL2.out i hi))
              have hsb := sumTo_bd (f := fun j => l.getD j 0) n fun i hi => vbit_bd (HALL.out i hi)
              rw [Nat.min_eq_left (by omega)] at ho
              have hcp := bit_pw hc n (by omega)
              have hp := pw_le12 (k := (n : Int)) (by omega)
              obtain ⟨S, hS⟩ : ∃ S, sumTo (fun j => l.getD j 0) n = S := ⟨_, rfl⟩
              rw [hS] at ho hsb hst
              have y2 := xorI_lt (k := 12) y1.1 hsb.1 y1.2 (by omega)
              obtain ⟨X, hX⟩ : ∃ X, xorI (xorI a b) S = X := ⟨_, rfl⟩
              rw [hX] at ho y2 hst
              have x2 := bits_xor (a := X) (b := l.getD n 0 * pw n) (by omega) (by omega) (by omega) (by omega)
              have e1 : IntKind.i64.wrap (l.getD n 0 * 2 ^ n) = l.getD n 0 * pw n := shl_wrap (k := (n : Int)) (by omega) (by omega)
              obtain ⟨c, hcc⟩ : ∃ c, l.getD n 0 = c := ⟨_, rfl⟩
              rw [hcc] at c1 hv hc hcp x2 e1
              have HST := Lib.hid hst
              have HX2 : bits .xor .i64 X (c * pw n) = xorI X (c * pw n) := x2
              have HCC := Lib.hid hcc
              subst ho
              clear hX hS hst x2 hcc
              have n1 : (n : Int) < (K : Int) := by omega
              go_wp2_with ((go_at_call 62; refine (isBit_any _ _).mono ?_; rintro e w' ⟨rfl, rfl⟩))
              go_roundw
              case rel => exact ⟨n + 1, by omega, by go_num, by rw [Nat.min_eq_left (by omega)]; have := HST.out; rw [HCC.out] at this; rw [this], HALL2.out, hb⟩
              case measure => simp [intOf]; omega
            · rw [Nat.min_eq_right (by omega)] at ho
              obtain ⟨X, hX⟩ : ∃ X, xorI (xorI a b) (sumTo (fun j => l.getD j 0) K) = X := ⟨_, rfl⟩
              rw [hX] at ho
              obtain ⟨c, hcc⟩ : ∃ c, l.getD n 0 = c := ⟨_, rfl⟩
              rw [hcc] at c1 hv hc
              have HX := Lib.hid hX
              subst ho
              clear hX hcc
              have n1 : ¬ (n : Int) < (K : Int) := by omega
              go_wp2_with ((go_at_call 62; refine (isBit_any _ _).mono ?_; rintro e w' ⟨rfl, rfl⟩))
              go_roundw
              case rel => exact ⟨n + 1, by omega, by go_num, by rw [Nat.min_eq_right (by omega), HX.out], HALL2.out, hb⟩
              case measure => simp [intOf]; omega
          · have hv : vbit (l.getD n 0) = false := by simpa using hv
            have E := Lib.hid (csumF_bad (k := K) (a := a) (b := b) n hlt hv)
            obtain ⟨c, hcc⟩ : ∃ c, l.getD n 0 = c := ⟨_, rfl⟩
            rw [hcc] at c1 hv
            clear hcc ho
            go_wp2_with ((go_at_call 62; refine (isBit_any _ _).mono ?_; rintro e w' ⟨rfl, rfl⟩))
            go_ret
            exact ⟨ret_int E.out.symm, hb⟩
        · obtain rfl : n = l.length := by omega
          have e1 := csum_xor (w := K) (a := a) (b := b) (f := fun j => l.getD j 0) HV.out fun i hi => vbit_bd (HALL.out i (by omega))
          rw [Int.toNat_natCast] at e1
          rw [Nat.min_eq_right (by omega), e1] at ho
          have E := Lib.hid (csumF_ok (k := K) (a := a) (b := b) HV.out (by omega) HALL.out)
          clear e1
          subst ho
          go_wp2
          go_ret
          exact ⟨ret_int E.out.symm, hb⟩
  · have h : v2 k a b = false := by simpa using h
    have E := Lib.hid (csumF_no (l := l) h)
    obtain ⟨x, c, rfl⟩ := hr.slice
    clear hr
    go_enter Try.func28, Try.ntmps28
    go_wp2_with ((go_at_call 56; refine (allValid2_any _ _ _ _ _ (by first | rfl | simp)).mono ?_; rintro e w' ⟨rfl, rfl⟩))
    go_ret
    exact ⟨ret_int E.out.symm, below_new1 _ _⟩
/-! ### the reference's -/
theorem csumS_any (k a b : Int) (v : Value) (l : List Int) (w : World) (hr : Rd w v l) (hlen : l.length ≤ 1048576) :
    Calls Try.prog 26 #[.int .i64 k, .int .i64 a, .int .i64 b, v] w fun e w' => e = .returned (.int .i64 (csumF k a b l)) ∧ Below w.heap.size w w' := by
  by_cases h : v2 k a b = true
  · obtain ⟨h1, h2, h3, h4, h5, h6, h12⟩ := v2_bd h
    obtain ⟨K, rfl⟩ : ∃ K : Nat, k = (K : Int) := ⟨k.toNat, by omega⟩
    by_cases hk : (l.length : Int) < (K : Int)
    · have E := Lib.hid (csumF_short (k := K) (a := a) (b := b) (l := l) (by omega))
      obtain ⟨x, c, rfl⟩ := hr.slice
      clear hr
      go_enter Try.func26, Try.ntmps26
      go_wp2_with ((go_at_call 46; refine (both_any _ _ _ _).mono ?_; rintro e w' ⟨rfl, rfl⟩))
      go_ret
      exact ⟨ret_int E.out.symm, Below.refl _ _⟩
    · obtain ⟨g, c, rfl, hg, hcell⟩ := hr.at_ (by omega)
      have HC := Lib.hid hcell
      have HV := Lib.hid h
      have hk2 : (K : Int) ≤ (l.length : Int) := by omega
      have hd1 : decide (l.length < K) = false := decide_eq_false (by omega)
      have hd2 : decide ((l.length : Int) < (K : Int)) = false := decide_eq_false (by omega)
      clear hr hcell h
      go_enter Try.func26, Try.ntmps26
      go_wp2_with ((go_at_call 46; refine (both_any _ _ _ _).mono ?_; rintro e w' ⟨rfl, rfl⟩))
      go_loop [9] (fun i => ∃ n : Nat, n ≤ l.length ∧ i = .int .i64 n ∧ (∀ j, j < n → vbit (l.getD j 0) = true)) (fun i => l.length - (intOf i).toNat)
      case atStart => exact ⟨0, Nat.zero_le _, rfl, fun j hj => by omega⟩
      case round =>
        obtain ⟨n, hn, rfl, hall⟩ := hrel
        have HALL := Lib.hid hall
        clear hall
        by_cases hlt : n < l.length
        · have c1 := HC.out n hlt
          have k0 : (0 : Int) ≤ (n : Int) := by omega
          have k1 : (n : Int) < (l.length : Int) := by omega
          by_cases hv : vbit (l.getD n 0) = true
          · have HALL2 := Lib.hid (fun j hj => by
              rcases (show j < n ∨ j = n by omega) with h | h
              · exact HALL.out j h
              · subst h; exact hv : ∀ j, j < n + 1 → vbit (l.getD j 0) = true)
            obtain ⟨c, hcc⟩ : ∃ c, l.getD n 0 = c := ⟨_, rfl⟩
            rw [hcc] at c1 hv
            have hvb : inB c 0 1 = true := hv
            clear hcc
            go_wp2_with ((go_at_call 61; refine (l1In_any _ _ _ _).mono ?_; rintro e w' ⟨rfl, rfl⟩))
            go_round
            case rel => exact ⟨n + 1, by omega, by go_num, HALL2.out⟩
            case measure => simp [intOf]; omega
          · have hv : vbit (l.getD n 0) = false := by simpa using hv
            have E := Lib.hid (csumF_bad (k := K) (a := a) (b := b) n hlt hv)
            obtain ⟨c, hcc⟩ : ∃ c, l.getD n 0 = c := ⟨_, rfl⟩
            rw [hcc] at c1 hv
            have hvb : inB c 0 1 = false := hv
            clear hcc
            go_wp2_with ((go_at_call 61; refine (l1In_any _ _ _ _).mono ?_; rintro e w' ⟨rfl, rfl⟩))
            go_ret
            exact ⟨ret_int E.out.symm, Below.refl _ _⟩
        · obtain rfl : n = l.length := by omega
          have E := Lib.hid (csumF_ok (k := K) (a := a) (b := b) HV.out (by omega) HALL.out)
          go_wp2
          go_loopw [10, 11] (fun o i wr => ∃ n : Nat, n ≤ K ∧ i = .int .i64 n ∧ o = .int .i64 (sumTo (fun j => (kind a b j + l.getD j 0) % 2) n) ∧ ∃ m, wr = w.drewN m) (fun _ i _ => K - (intOf i).toNat)
          case atStart => exact ⟨0, Nat.zero_le _, rfl, rfl, 0, rfl⟩
          case round =>
            obtain ⟨n, hn, rfl, ho, m, rfl⟩ := hrel
            by_cases hlt : n < K
            · have c1 := HC.out n (by omega)
              have k0 : (0 : Int) ≤ (n : Int) := by omega
              have k1 : (n : Int) < (K : Int) := by omega
              have k2 : (n : Int) < (l.length : Int) := by omega
              have hc := vbit_bd (HALL.out n (by omega))
              have b1 := bt_01 a n
              have b2 := bt_01 b n
              have hsb := sumTo_bd (f := fun j => (kind a b j + l.getD j 0) % 2) n fun i hi => by
                have := kind_bd a b i
                omega
              have hp := pw_le12 (k := (n : Int)) (by omega)
              have hd : 0 ≤ (kind a b n + l.getD n 0) % 2 ∧ (kind a b n + l.getD n 0) % 2 ≤ 1 := by omega
              have hcp := bit_pw hd n (by omega)
              have HN := Lib.hid (show sumTo (fun j => (kind a b j + l.getD j 0) % 2) (n + 1) = sumTo (fun j => (kind a b j + l.getD j 0) % 2) n + (kind a b n + l.getD n 0) % 2 * pw n from rfl)
              obtain ⟨S, hS⟩ : ∃ S, sumTo (fun j => (kind a b j + l.getD j 0) % 2) n = S := ⟨_, rfl⟩
              rw [hS] at ho hsb
              have HSS := Lib.hid hS
              obtain ⟨c, hcc⟩ : ∃ c, l.getD n 0 = c := ⟨_, rfl⟩
              rw [hcc] at c1 hc hd hcp
              have HCC := Lib.hid hcc
              have ht : (bt a n + bt b n + c).tmod 2 = (kind a b n + c) % 2 := Int.tmod_eq_emod_of_nonneg (by omega)
              obtain ⟨d, hdd⟩ : ∃ d, (kind a b n + c) % 2 = d := ⟨_, rfl⟩
              rw [hdd] at ht hd hcp
              have HDD := Lib.hid hdd
              have s1 := IntWalk.i64_in (bt a n + bt b n) (by omega)
              have s2 := IntWalk.i64_in (bt a n + bt b n + c) (by omega)
              have s0 := IntWalk.i64_in d (by omega)
              have e1 : IntKind.i64.wrap (d * 2 ^ n) = d * pw n := shl_wrap (k := (n : Int)) (by omega) (by omega)
              have s4 := IntWalk.i64_in (S + d * pw n) (by omega)
              clear hS hcc hdd
              subst ho
              go_wp2_with fail
              go_quiet ((go_at_call 58; first | exact quiet_1 (l1Bit_any _ _ _ (by omega) (by omega) (by omega)) | exact quiet_2 (l1Bit_any _ _ _ (by omega) (by omega) (by omega))))
              go_wp2
              go_roundw
              case rel => exact ⟨n + 1, by omega, by go_num, by rw [HN.out, HSS.out, HCC.out, HDD.out], _, rfl⟩
              case measure => simp [intOf]; omega
            · obtain rfl : n = K := by omega
              have e : csum n a b (fun i => l.getD i 0) = sumTo (fun j => (kind a b j + l.getD j 0) % 2) n := by unfold csum; rw [Int.toNat_natCast]
              have E2 := Lib.hid (E.out.trans e)
              clear e
              subst ho
              go_wp2
              go_ret
              exact ⟨ret_int E2.out.symm, below_drewN (Below.refl _ _) _⟩
  · have h : v2 k a b = false := by simpa using h
    have E := Lib.hid (csumF_no (l := l) h)
    obtain ⟨x, c, rfl⟩ := hr.slice
    clear hr
    go_enter Try.func26, Try.ntmps26
    go_wp2_with ((go_at_call 46; refine (both_any _ _ _ _).mono ?_; rintro e w' ⟨rfl, rfl⟩))
    go_ret
    exact ⟨ret_int E.out.symm, Below.refl _ _⟩
/-! ### the laws' copy of a list that came in -/
def cpy (zs : List Int) (len n : Nat) : List Int := zs.take n ++ List.replicate (len - n) 0
theorem cpy_len (zs : List Int) (len n : Nat) (h : n ≤ len) (hz : len ≤ zs.length) : (cpy zs len n).length = len := by simp [cpy]; omega
theorem cpy_0 (zs : List Int) (len : Nat) : cpy zs len 0 = List.replicate len 0 := by simp [cpy]
theorem cpy_all (zs : List Int) (len : Nat) : cpy zs len len = zs.take len := by simp [cpy]
theorem cpy_set (zs : List Int) (len n : Nat) (h : n < len) (hz : len ≤ zs.length) : (cpy zs len n).set n (zs.getD n 0) = cpy zs len (n + 1) := by
  have e : zs.take (n + 1) = zs.take n ++ [zs.getD n 0] := by
    have hn : n < zs.length := by omega
    rw [List.take_add_one]; simp [List.getD, hn]
  unfold cpy
  rw [List.set_append_right _ _ (by simp; omega), e, List.append_assoc]
  congr 1
  rw [show n - (zs.take n).length = 0 by simp; omega, show len - n = (len - (n + 1)) + 1 by omega, List.replicate_succ, List.set_cons_zero]
  rfl
theorem zeros (n : Nat) : (madeCells (Value.cells (.int .i64 0)) (n * 1)).toList = (List.replicate n (0 : Int)).map (Value.int .i64) := by
  apply List.ext_getElem
  · simp [madeCells]
  · intro i h1 h2
    simp [madeCells, Value.cells, Nat.mod_one]
theorem IsRow.full {k : IntKind} {w : World} {a : Option Addr} {len cap : Nat} {zs : List Int} (h : IsRow k w a len cap zs) : len ≤ zs.length := by
  rcases h with ⟨_, h, _⟩ | ⟨x, ha, h1, h2, hz, hc, hw⟩ <;> omega
/-- 'make' of a list of numbers in a region, behind a guard that is met. -/
theorem make_wanted {P : Program} (w : World) {ops : Array Oper} {rest : List Oper} {o : Oper} {a : Act} {Q : Exit → Act → World → Prop}
    (hg : Region.wanted o (yielded ops a.tmps) = true) (l c : Operand) (t : TypeId) (hop : o.op = Op.makeSlice t l c)
    (base : Nat) (e : TypeId) (i : TypeInfo) (z : Value) (size : Nat) (h1 : P.underlying t = some (.slice e)) (h2 : P.info? e = some i) (h3 : i.zero = some z) (h4 : i.size = size)
    (kl kc : IntKind) (L C : Int) (n : Nat) (hl : a.eval l = .int kl L) (hc : a.eval c = .int kc C) (hL : L = (n : Int)) (hC : C = (n : Int)) (b2 : i.bytes * n ≤ 281474976710656) (b3 : n ≤ maxLen) (b4 : base ≤ w.heap.size)
    (hK : ∀ w', w'.ownsRow base e size (.slice (some ⟨w.heap.size, 0, none⟩) n n) n (madeCells z.cells (n * size)).toList → w.grownBy w' none → wpList P ops Q rest (a.put o.dst (.slice (some ⟨w.heap.size, 0, none⟩) n n)) w') :
    wpList P ops Q (o :: rest) a w := by
  refine wpList_step fun K hK' => ?_
  rw [if_pos hg]
  obtain ⟨w', hrun, r1, r2⟩ := run_make_full (P := P) w base t e i z size h1 h2 h3 h4 kl kc n b2 b3 b4
  subst hL
  subst hC
  unfold Oper.wp
  simp [execOp, hop, hl, hc, hrun, Result.andThen]
  exact hK' _ _ (hK w' r1 r2)
theorem toInt_any (a : Option Addr) (len cap : Nat) (zs : List Int) (w : World) (hr : IsRow .i64 w a len cap zs) (hlen : len ≤ 1048576) :
    Calls Try.prog 27 #[.slice a len cap] w fun e w' => LRet (zs.take len) w e w' := by
  obtain ⟨i0, hi, hz0, hz1, hz2⟩ := info_parts info_int
  have hfull := hr.full
  obtain ⟨_, _, hcell⟩ := hr.open_
  have HC := Lib.hid hcell
  clear hr hcell
  go_enter Try.func27, Try.ntmps27
  go_wp2_with (at_make; refine wpList_make_full _ rfl _ _ 28 rfl w.heap.size 3 i0 (.int .i64 0) 1 Try.underlying28 hi hz0 hz1 .i64 .i64 _ _ len rfl rfl rfl rfl (by rw [hz2]; omega) (by unfold maxLen; omega) (Nat.le_refl _) ?_; intro w1 hown hgrow)
  have R : Own w1 w.heap.size (.slice (some ⟨w.heap.size, 0, none⟩) len len) (cpy zs len 0) ∧ Below w.heap.size w w1 := by
    refine ⟨?_, (Below.refl _ _).grown hgrow (Nat.le_refl _) (fun j hj => by cases hj)⟩
    unfold Own
    rw [cpy_0, List.length_replicate, ← zeros]
    exact hown
  have HR := Lib.hid R
  clear R hown hgrow
  go_wp2
  go_loopw [4] (fun i wr => ∃ n : Nat, n ≤ len ∧ i = .int .i64 n ∧ Own wr w.heap.size (.slice (some ⟨w.heap.size, 0, none⟩) len len) (cpy zs len n) ∧ Below w.heap.size w wr) (fun i _ => len - (intOf i).toNat)
  case atStart => exact ⟨0, Nat.zero_le _, rfl, HR.out.1, HR.out.2⟩
  case round =>
    obtain ⟨n, hn, rfl, hown, hb⟩ := hrel
    have hln := cpy_len zs len n hn hfull
    by_cases hlt : n < len
    · rcases HC.out with h0 | ⟨b, off, ha, hbl, hc⟩
      · omega
      · subst ha
        have c1 := (hb.cell (p := ⟨b, off + n, none⟩) hbl).trans (hc n hlt).1
        have hown2 : wr.ownsRow w.heap.size 3 1 (.slice (some ⟨w.heap.size, 0, none⟩) (cpy zs len n).length len) (cpy zs len n).length ((cpy zs len n).map (Value.int .i64)) := by
          have := hown; unfold Own at this; rw [hln] at this ⊢; exact this
        have hc2 := World.ownsRow.cellAt hown2 n (by omega)
        rw [map_getD _ _ (by omega)] at hc2
        have hf := World.ownsRow.frozenAt hown2 n
        have hst := World.ownsRow.stored hown2 n (.int .i64 (zs.getD n 0))
        have R : Own (wr.setCell ⟨w.heap.size, n, none⟩ (.int .i64 (zs.getD n 0))) w.heap.size (.slice (some ⟨w.heap.size, 0, none⟩) len len) (cpy zs len (n + 1)) ∧ Below w.heap.size w (wr.setCell ⟨w.heap.size, n, none⟩ (.int .i64 (zs.getD n 0))) := by
          constructor
          · have := hst.1
            rw [← List.map_set, cpy_set zs len n hlt hfull, hln] at this
            unfold Own
            rw [cpy_len zs len (n + 1) (by omega) hfull]
            exact this
          · exact hb.grown hst.2 hb.size (fun j hj => by cases hj; exact Nat.le_refl _)
        obtain ⟨x, hx⟩ : ∃ x, zs.getD n 0 = x := ⟨_, rfl⟩
        obtain ⟨y, hy⟩ : ∃ y, (cpy zs len n).getD n 0 = y := ⟨_, rfl⟩
        rw [hx] at R c1
        rw [hy] at hc2
        have HR := Lib.hid R
        clear hst R hown hown2 hx hy hln hc hb
        have k2 : (n : Int) < (len : Int) := by omega
        have k3 : (0 : Int) ≤ (n : Int) := by omega
        go_wp2
        go_roundw
        case rel => exact ⟨n + 1, by omega, by go_num, HR.out.1, HR.out.2⟩
        case measure => simp [intOf]; omega
    · obtain rfl : n = len := by omega
      rw [cpy_all] at hown
      have HO := Lib.hid hown
      clear hown hln
      go_wp2
      go_ret
      exact lret HO.out hb
end Go.Proofs.Ythhehbcnpmjicaa
