/-
  The reader of certs (chapter 24): a number.
-/
import Derived.Test.YtnamcghcgcknpaaCertA
import Derived.Laws.BitsAllLaws
namespace Go.Proofs.Ytnamcghcgcknpaa
open Go.RowKit
set_option linter.unusedVariables false

theorem Got.bad {α : Type} {w w1 w' : World} {rb : Nat} {a : Option Addr} {len cap : Nat} {bs : List Nat} {V : α → Value → World → Prop} {e : Ending} (o : Option (α × List Nat)) (ho : o = none) (h : Chg (fun k => k = rb) w w1) (hx : Ext w1 w') (hg : Gone w1.heap.size e w') : Got w rb a len cap bs o V e w' := by
  subst ho
  exact ⟨h.trans (hx.mono (fun _ _ h => h.elim)), hg.mono h.size⟩
theorem and127 (c : Nat) (h : c < 256) : bits .and .u8 (c : Int) 127 = ((c % 128 : Nat) : Int) := by
  have := u8_and_nat c 127 h (by omega)
  rw [show ((127 : Nat) : Int) = 127 from rfl] at this
  rw [this, show (127 : Nat) = 2 ^ 7 - 1 from rfl, Nat.and_two_pow_sub_one_eq_mod]
theorem wrap64_nat (n : Nat) (h : n < 9223372036854775808) : wrap64 (n : Int) = n := by
  unfold wrap64
  omega
theorem or_i64_nat (a b : Nat) (ha : a < 9223372036854775808) (hb : b < 9223372036854775808) : bits .or .i64 (a : Int) (b : Int) = ((a ||| b : Nat) : Int) := by
  have hx : a ||| b < 2 ^ 63 := Nat.or_lt_two_pow (by omega) (by omega)
  have h1 : (BitVec.ofInt 64 (a : Int)).toNat = a := by
    rw [BitVec.ofInt_natCast, BitVec.toNat_ofNat]; exact Nat.mod_eq_of_lt (by omega)
  have h2 : (BitVec.ofInt 64 (b : Int)).toNat = b := by
    rw [BitVec.ofInt_natCast, BitVec.toNat_ofNat]; exact Nat.mod_eq_of_lt (by omega)
  show IntKind.i64.wrap ((BitVec.ofInt 64 (a : Int) ||| BitVec.ofInt 64 (b : Int)).toNat : Int) = _
  rw [BitVec.toNat_or, h1, h2]
  generalize (a ||| b) = x at hx
  simp only [IntKind.wrap, IntKind.bits, IntKind.signed]
  simp
  omega
theorem num_or (n c i : Nat) (hn : n < 128 ^ i) (hc : c < 256) (hi : i ≤ 8) :
    bits .or .i64 (n : Int) (wrap64 (wrap64 (bits .and .u8 (c : Int) 127) * 2 ^ (7 * i))) = ((n + (c % 128) * 128 ^ i : Nat) : Int) := by
  have hp : (128 : Nat) ^ i = 2 ^ (7 * i) := by rw [Nat.pow_mul]
  have h9 : 128 ^ 9 = 9223372036854775808 := by decide
  have hle : 128 * 128 ^ i ≤ 128 ^ 9 := by rw [Nat.mul_comm, ← Nat.pow_succ]; exact Nat.pow_le_pow_right (by omega) (by omega)
  have hlt : c % 128 < 128 := Nat.mod_lt _ (by omega)
  have hb : c % 128 * 128 ^ i < 9223372036854775808 := by
    rw [← h9]
    exact Nat.lt_of_lt_of_le (Nat.mul_lt_mul_of_pos_right hlt (Nat.pow_pos (by omega))) hle
  have hn9 : n < 9223372036854775808 := by
    rw [← h9]
    have := Nat.pow_pos (n := i) (show 0 < 128 by omega)
    omega
  rw [and127 c hc, wrap64_nat _ (by omega)]
  have e1 : ((c % 128 : Nat) : Int) * 2 ^ (7 * i) = ((c % 128 * 128 ^ i : Nat) : Int) := by
    rw [hp]; push_cast; rfl
  rw [e1, wrap64_nat _ hb, or_i64_nat _ _ hn9 hb]
  congr 1
  rw [Nat.or_comm, hp, ← Nat.shiftLeft_eq, ← Nat.shiftLeft_add_eq_or_of_lt (by rw [← hp]; exact hn), Nat.add_comm]
/-- The loop's state: i groups are read, worth n. -/
def NumSt (w wr : World) (rb : Nat) (a : Option Addr) (len cap : Nat) (bs rest0 : List Nat) (i : Nat) (z : Int) : Prop :=
  Chg (fun k => k = rb) w wr ∧ i ≤ 10 ∧ ∃ rest, Rd wr rb a len cap bs rest ∧ (i ≤ 9 → ∃ n : Nat, z = n ∧ dNum 0 0 rest0 = dNum i n rest ∧ n < 128 ^ i) ∧ (i = 10 → dNum 0 0 rest0 = none)
theorem lt9 {n c i : Nat} (hn : n < 128 ^ i) (hi : i ≤ 8) : n + c % 128 * 128 ^ i < 9223372036854775808 := by
  have h9 : 128 ^ 9 = 9223372036854775808 := by decide
  have hle : 128 * 128 ^ i ≤ 128 ^ 9 := by rw [Nat.mul_comm, ← Nat.pow_succ]; exact Nat.pow_le_pow_right (by omega) (by omega)
  have hlt : c % 128 ≤ 127 := by omega
  have := Nat.mul_le_mul_right (128 ^ i) hlt
  omega
theorem lt128 {n c i : Nat} (hn : n < 128 ^ i) : n + c % 128 * 128 ^ i < 128 ^ (i + 1) := by
  have hlt : c % 128 ≤ 127 := by omega
  have := Nat.mul_le_mul_right (128 ^ i) hlt
  rw [Nat.pow_succ]
  omega
set_option maxRecDepth 100000 in
theorem num_any {w : World} {rb : Nat} {a : Option Addr} {len cap : Nat} {bs rest : List Nat} (h : Rd w rb a len cap bs rest) :
    Calls Try.prog 45 #[.pointer (some ⟨rb, 0, none⟩)] w (Got w rb a len cap bs (dNum 0 0 rest) fun n v w' => v = .int .i64 n ∧ n < 9223372036854775808) := by
  have H := Lib.hid h
  clear h
  obtain ⟨D, hD⟩ : ∃ D, D = dNum 0 0 rest := ⟨_, rfl⟩
  rw [← hD]
  have HD := Lib.hid hD
  clear hD
  go_enter Try.func45, Try.ntmps45
  go_wp2_with fail
  go_loopg [2, 5] 10 (fun g l2 l5 wr => ∃ (i : Nat) (z : Int), NumSt w wr rb a len cap bs rest i z ∧ l2 = .int .i64 z ∧ l5 = .int .i64 i ∧ g = 10 - i)
  case atStart =>
    exact ⟨0, 0, ⟨Chg.refl w, by omega, rest, H.out, fun _ => ⟨0, rfl, rfl, by simp⟩, fun h => by omega⟩, rfl, rfl, rfl⟩
  case round =>
    obtain ⟨i, z, ⟨hch, hi, rest1, hrd, h9, h10⟩, rfl, rfl, rfl⟩ := hrel
    by_cases hi9 : i ≤ 9
    · obtain ⟨n, rfl, hdn, hn⟩ := h9 hi9
      rw [← HD.out] at hdn
      have HN := Lib.hid (And.intro hdn hn)
      have HC := Lib.hid hch
      have HB := Lib.hid (byte_any hrd)
      clear hch hrd h9 h10 hdn hn
      have hi9' : (i : Int) < 10 := by omega
      go_wp2_with fail
      refine HB.out.mono ?_
      rintro e w' ⟨hc2, hg⟩
      cases rest1 with
      | nil =>
        have hfin : Got w rb a len cap bs D (fun (n : Nat) v w' => v = .int .i64 n ∧ n < 9223372036854775808) e w' := by
          rw [HN.out.1]
          exact ⟨HC.out.trans hc2, hg.mono HC.out.size⟩
        obtain ⟨p, ch, b, rfl, _⟩ := hg
        exact ⟨rfl, hfin⟩
      | cons c rest1 =>
        obtain ⟨v, rfl, ⟨rfl, hc256⟩, hrd⟩ := hg
        have HR := Lib.hid hrd
        have HC2 := Lib.hid (HC.out.trans hc2)
        have hdN := HN.out.1
        rw [dNum] at hdN
        clear hrd hc2 HC HB
        by_cases hc : c < 128
        · rw [if_pos hc] at hdN
          have hc' : (c : Int) < 128 := by omega
          by_cases hbad : (0 < i ∧ c = 0) ∨ i = 9
          · rw [if_pos hbad] at hdN
            have HDN := Lib.hid hdN
            clear hdN HN
            have hbad' : ((decide (0 < (i : Int)) && ((c : Int) == 0)) || ((i : Int) == 9)) = true := by
              rcases hbad with ⟨h1, rfl⟩ | rfl
              · have : (0 : Int) < i := by omega
                simp [h1]
              · simp
            rcases hbad with ⟨h1, rfl⟩ | rfl
            · have h1' : (0 : Int) < i := by omega
              go_wp2_with fail
              refine (bad_any HR.out.c1).mono ?_
              rintro e w2 ⟨hx, hg⟩
              have hfin := Got.bad (a := a) (len := len) (cap := cap) (bs := bs) (V := fun (n : Nat) v (w' : World) => v = .int .i64 n ∧ n < 9223372036854775808) D HDN.out HC2.out hx hg
              obtain ⟨p, ch, b, rfl, _⟩ := hg
              exact ⟨rfl, hfin⟩
            · by_cases h0 : c = 0
              · subst h0
                go_wp2_with fail
                refine (bad_any HR.out.c1).mono ?_
                rintro e w2 ⟨hx, hg⟩
                have hfin := Got.bad (a := a) (len := len) (cap := cap) (bs := bs) (V := fun (n : Nat) v (w' : World) => v = .int .i64 n ∧ n < 9223372036854775808) D HDN.out HC2.out hx hg
                obtain ⟨p, ch, b, rfl, _⟩ := hg
                exact ⟨rfl, hfin⟩
              · have h0' : ¬ (c : Int) = 0 := by omega
                go_wp2_with fail
                refine (bad_any HR.out.c1).mono ?_
                rintro e w2 ⟨hx, hg⟩
                have hfin := Got.bad (a := a) (len := len) (cap := cap) (bs := bs) (V := fun (n : Nat) v (w' : World) => v = .int .i64 n ∧ n < 9223372036854775808) D HDN.out HC2.out hx hg
                obtain ⟨p, ch, b, rfl, _⟩ := hg
                exact ⟨rfl, hfin⟩
          · rw [if_neg hbad] at hdN
            have hi8 : i ≤ 8 := by omega
            have hno := num_or n c i HN.out.2 hc256 hi8
            have h63 := lt9 (c := c) HN.out.2 hi8
            have HE := Lib.hid (And.intro hno h63)
            have HDN := Lib.hid hdN
            clear hdN HN hno h63
            have i9 : ¬ (i : Int) = 9 := by omega
            have i9' : ((i : Int) == 9) = false := by simpa using i9
            by_cases h0 : i = 0
            · subst h0
              have HE' : Hid (bits .or .i64 (n : Int) (wrap64 (wrap64 (bits .and .u8 (c : Int) 127))) = ((n + (c % 128) * 128 ^ 0 : Nat) : Int)) := Lib.hid (by
                have := HE.out.1
                simpa using this)
              go_wp2_with fail
              go_ret
              rw [HDN.out]
              have h128 : c * 128 ^ 0 = c % 128 * 128 ^ 0 := by rw [Nat.mod_eq_of_lt hc]
              rw [h128]
              exact ⟨HC2.out, _, rfl, ⟨congrArg (Value.int .i64) HE'.out, HE.out.2⟩, HR.out⟩
            · have h0' : (0 : Int) < i := by omega
              have c0 : ((c : Int) == 0) = false := by
                have : ¬ c = 0 := fun h => hbad (.inl ⟨by omega, h⟩)
                simpa using this
              go_wp2_with fail
              go_ret
              rw [HDN.out]
              have h128 : c * 128 ^ i = c % 128 * 128 ^ i := by rw [Nat.mod_eq_of_lt hc]
              rw [h128]
              exact ⟨HC2.out, _, rfl, ⟨congrArg (Value.int .i64) HE.out.1, HE.out.2⟩, HR.out⟩
        · rw [if_neg hc] at hdN
          have hc' : ¬ (c : Int) < 128 := by omega
          by_cases hi8 : i ≤ 8
          · rw [if_neg (by omega)] at hdN
            have h128 : c - 128 = c % 128 := by omega
            rw [h128] at hdN
            have HE := Lib.hid (num_or n c i HN.out.2 hc256 hi8)
            have hl := lt128 (c := c) HN.out.2
            have HDN := Lib.hid (And.intro hdN hl)
            clear hdN HN hl h128
            go_wp2_with fail
            go_roundg (10 - (i + 1))
            case measure => omega
            case rel => exact ⟨i + 1, _, ⟨HC2.out, by omega, rest1, HR.out, fun _ => ⟨_, HE.out, HD.out.symm.trans HDN.out.1, HDN.out.2⟩, fun h => by omega⟩, rfl, rfl, rfl⟩
          · obtain rfl : i = 9 := by omega
            have HDN : Hid (D = none) := Lib.hid (by simpa using hdN)
            clear hdN HN
            go_wp2_with fail
            go_roundg 0
            case measure => omega
            case rel => exact ⟨10, _, ⟨HC2.out, by omega, rest1, HR.out, fun h => by omega, fun _ => HD.out.symm.trans HDN.out⟩, rfl, rfl, rfl⟩
    · obtain rfl : i = 10 := by omega
      have HDN := Lib.hid (HD.out.trans (h10 rfl))
      have HR := Lib.hid hrd
      have HC2 := Lib.hid hch
      clear hch hrd h9 h10
      go_wp2_with fail
      refine (bad_any HR.out.c1).mono ?_
      rintro e w2 ⟨hx, hg⟩
      have hfin := Got.bad (a := a) (len := len) (cap := cap) (bs := bs) (V := fun (n : Nat) v (w' : World) => v = .int .i64 n ∧ n < 9223372036854775808) D HDN.out HC2.out hx hg
      obtain ⟨p, ch, b, rfl, _⟩ := hg
      exact ⟨rfl, hfin⟩
end Go.Proofs.Ytnamcghcgcknpaa
