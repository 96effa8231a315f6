/-
  The reader of certs (chapter 24): a value with a double.
-/
import Derived.Test.YtnamcghcgcknpaaCertI
import Derived.Deep.RegionHeld3
namespace Go.Proofs.Ytnamcghcgcknpaa
open Go.RowKit
set_option linter.unusedVariables false

theorem oct_or {b c i : Nat} (hb : b < 256 ^ i) (hi : i < 8) (hc : c < 256) : bits .or .u64 (IntKind.u64.wrap ((b : Int) * 256)) (c : Int) = ((b * 256 + c : Nat) : Int) ∧ b * 256 + c < 256 ^ (i + 1) := by
  have hle : 256 ^ (i + 1) ≤ 256 ^ 8 := Nat.pow_le_pow_right (by omega) (by omega)
  rw [Nat.pow_succ] at hle
  have h8 : (256 : Nat) ^ 8 = 18446744073709551616 := by decide
  have hm : (b + 1) * 256 ≤ 256 ^ i * 256 := Nat.mul_le_mul_right 256 hb
  refine ⟨?_, by rw [Nat.pow_succ]; omega⟩
  have hw : IntKind.u64.wrap ((b : Int) * 256) = ((b * 256 : Nat) : Int) := by
    simp only [IntKind.wrap, IntKind.bits, IntKind.signed]
    simp
    omega
  rw [hw, u64_or_nat _ _ (by omega) (by omega)]
  congr 1
  have := Nat.shiftLeft_add_eq_or_of_lt (show c < 2 ^ 8 by omega) b
  rw [Nat.shiftLeft_eq] at this
  exact this.symm
theorem dOct_cons {b k c : Nat} {rest : List Nat} : dOct b (k + 1) (c :: rest) = dOct (b * 256 + c) k rest := rfl
set_option maxRecDepth 100000 in
set_option maxHeartbeats 1000000 in
theorem value_flo {w : World} {rb : Nat} {a : Option Addr} {len cap : Nat} {bs r : List Nat} {s : Nat} (h : Rd w rb a len cap bs (s :: r)) (h13 : ¬ (s = 1 ∨ s = 3)) (h24 : ¬ (s = 2 ∨ s = 4)) :
    Calls Try.prog 31 #[.pointer (some ⟨rb, 0, none⟩)] w (Got w rb a len cap bs (dVal (s :: r)) (ValV w)) := by
  have hlt := h.lt
  have hbox0 : Vb w (w.alloc (Obj.cells #[.int .i64 0, .bool false, .slice none 0 0, .int .i64 0, .float .f64 0] 31)) rb #[.int .i64 0, .bool false, .slice none 0 0, .int .i64 0, .float .f64 0] := ⟨(Chg.refl w).alloc _, Blk.new _ _ _⟩
  have hrd0 : Rd (w.alloc (Obj.cells #[.int .i64 0, .bool false, .slice none 0 0, .int .i64 0, .float .f64 0] 31)) rb a len cap bs (s :: r) := h.chg (S := fun _ => False) ((Chg.refl w).alloc _) (fun _ _ h => h)
  have HB0 := Lib.hid hbox0
  have HR0 := Lib.hid hrd0
  have HD := Lib.hid (dVal_flo (r := r) h13 h24)
  clear hbox0 hrd0 h
  obtain ⟨D, hD⟩ : ∃ D, D = dVal (s :: r) := ⟨_, rfl⟩
  rw [← hD] at HD ⊢
  clear hD
  have hs1 : ((s : Int) == 1) = false := by simp; omega
  have hs2 : ((s : Int) == 2) = false := by simp; omega
  have hs3 : ((s : Int) == 3) = false := by simp; omega
  have hs4 : ((s : Int) == 4) = false := by simp; omega
  clear h24 h13
  have hsf := run_store_f
  go_enter Try.func31, Try.ntmps31
  go_wp2_with fail
  refine (byte_any HR0.out).mono ?_
  rintro e w1 ⟨hc, hg⟩
  obtain ⟨v, rfl, ⟨rfl, hs⟩, hrd⟩ := hg
  have HB1 : Hid (Vb w (w1.setCell ⟨w.heap.size, 0, none⟩ (.int .i64 (s : Int))) rb #[.int .i64 (s : Int), .bool false, .slice none 0 0, .int .i64 0, .float .f64 0]) := Lib.hid ((HB0.out.call hlt hc).set 0 (.int .i64 (s : Int)))
  have HR1 := Lib.hid (hrd.box hlt 0 (.int .i64 (s : Int)))
  have hsz1 := hc.size
  have k0 := (HB0.out.call hlt hc).2.cell 0 _ rfl
  have f0 := (HB0.out.call hlt hc).2.frozen 0
  have k1 := HB1.out.2.cell 0 _ rfl
  clear hc hrd
  go_wp2_with fail
  go_loopg [6, 13] 8 (fun g l6 l13 wr => ∃ (i b : Nat) (rest : List Nat), Vb w wr rb #[.int .i64 (s : Int), .bool false, .slice none 0 0, .int .i64 0, .float .f64 0] ∧ Rd wr rb a len cap bs rest ∧ dOct 0 8 r = dOct b (8 - i) rest ∧ b < 256 ^ i ∧ i ≤ 8 ∧ l6 = .int .u64 b ∧ l13 = .int .i64 i ∧ g = 8 - i)
  case atStart => exact ⟨0, 0, r, HB1.out, HR1.out, rfl, by simp, by omega, rfl, rfl, rfl⟩
  case round =>
    obtain ⟨i, b, rest, hvb, hrd, hdo, hb, hi8, rfl, rfl, rfl⟩ := hrel
    have HVB := Lib.hid hvb
    have HRD := Lib.hid hrd
    have HDO := Lib.hid (And.intro hdo hb)
    clear hvb hrd hdo hb
    by_cases hi : i < 8
    · have hi' : (i : Int) < 8 := by omega
      go_wp2_with fail
      refine (byte_any HRD.out).mono ?_
      rintro e w2 ⟨hc2, hg⟩
      cases rest with
      | nil =>
        have hno : dOct 0 8 r = none := by rw [HDO.out.1, show 8 - i = (8 - i - 1) + 1 by omega]; rfl
        have hD : D = none := by rw [HD.out, hno]
        have hfin : Got w rb a len cap bs D (ValV w) e w2 := Got.gone D hD (HVB.out.call hlt hc2).low hg (by have := HVB.out.1.size; omega)
        obtain ⟨p, ch, b, rfl, _⟩ := hg
        exact ⟨rfl, hfin⟩
      | cons c rest =>
        obtain ⟨v, rfl, ⟨rfl, hc256⟩, hrd⟩ := hg
        have HB2 := Lib.hid (HVB.out.call hlt hc2)
        have HR2 := Lib.hid hrd
        clear hc2 hrd
        go_wp2_with fail
        have ho := oct_or HDO.out.2 hi hc256
        go_roundg (8 - (i + 1))
        case measure => omega
        case rel =>
          refine ⟨i + 1, b * 256 + c, rest, HB2.out, HR2.out, ?_, ho.2, by omega, congrArg (Value.int .u64) ho.1, rfl, rfl⟩
          rw [HDO.out.1, show 8 - i = (8 - (i + 1)) + 1 by omega, dOct_cons]
    · obtain rfl : i = 8 := by omega
      have h8 : (256 : Nat) ^ 8 = 18446744073709551616 := by decide
      have hb64 : b < 18446744073709551616 := by rw [← h8]; exact HDO.out.2
      have hno : dOct 0 8 r = some (b, rest) := by rw [HDO.out.1]; rfl
      have hD2 := HD.out
      rw [hno] at hD2
      simp only at hD2
      have HOF := Lib.hid (fun w => of_any b hb64 w)
      have hx64 : fo b < 18446744073709551616 := by simp only [fo]; split <;> omega
      have HX64 := Lib.hid hx64
      clear h8 hno HDO hx64
      obtain ⟨x, hx⟩ : ∃ x, fo b = x := ⟨_, rfl⟩
      rw [hx] at HOF hD2 HX64
      have HBI := Lib.hid (fun w => bits_any x w)
      have HD2 := Lib.hid hD2
      have HB2 : Hid (Vb w (wr.setCell ⟨w.heap.size, 4, none⟩ (.float .f64 x)) rb #[.int .i64 (s : Int), .bool false, .slice none 0 0, .int .i64 0, .float .f64 x]) := Lib.hid (HVB.out.set 4 (.float .f64 x))
      have HR2 := Lib.hid (HRD.out.box hlt 4 (.float .f64 x))
      have kk4 := HVB.out.2.cell 4 _ rfl
      have ff4 := HVB.out.2.frozen 4
      obtain ⟨j0, i0, j1, i1, j2, i2, j3, i3, j4, i4⟩ := blk5_base HB2.out.2
      clear hx hD2 k0 f0 k1
      generalize fb x = y at HBI HD2
      by_cases hy : y = b
      · subst hy
        have HD3 : Hid (D = if mayV ⟨s, false, [], 0, x⟩ = 0 then some (⟨s, false, [], 0, x⟩, rest) else none) := Lib.hid (by rw [HD2.out, if_pos rfl])
        have HM := Lib.hid (may_any (w := wr.setCell ⟨w.heap.size, 4, none⟩ (.float .f64 x)) (v := ⟨s, false, [], 0, x⟩) (a := none) (cap := 0) ⟨Nat.le_refl _, by unfold maxLen; omega, fun j u hu => by simp [wordCells] at hu⟩ HX64.out)
        generalize mayV ⟨s, false, [], 0, x⟩ = mv at HM HD3
        by_cases hmv : mv = 0
        · subst hmv
          have HD4 : Hid (D = some (⟨s, false, [], 0, x⟩, rest)) := Lib.hid HD3.out
          go_wp2_with (first | (go_at_call 58; refine (HOF.out _).mono ?_; rintro e w' ⟨rfl, rfl⟩) | (go_at_call 26; refine (HBI.out _).mono ?_; rintro e w' ⟨rfl, rfl⟩) | (go_at_call 24; refine HM.out.mono ?_; rintro e w' ⟨rfl, hx⟩; have kb := HB2.out.2.chg hx (fun h => h); obtain ⟨g0, f0, g1, f1, g2, f2, g3, f3, g4, f4⟩ := blk5_base kb; obtain ⟨y3, z3, y4, z4, q0, q1, q2, q3, q4⟩ := blk5_facts kb (.int .i64 (s : Int)) (.bool false) (.slice none 0 0) (.int .i64 0) (.float .f64 x); have HXX := Lib.hid hx; clear kb hx))
          (try simp only [Exit.inBlock, Exit.then])
          refine bodyPost_ret (by simp [results, Try.results31, go_sem, q0, q1, q2, q3, q4]; try rfl) rfl ?_
          exact val_done (v := ⟨s, false, [], 0, x⟩) hlt (HB2.out.ext HXX.out) (HR2.out.ext HXX.out) (World.ownsRow_nil _ _ _ _) HX64.out D HD4.out _ _ _ _ _
        · have hmv' : (mv == 0) = false := by simpa using hmv
          have HD4 : Hid (D = none) := Lib.hid (by rw [HD3.out, if_neg hmv])
          go_wp2_with (first | (go_at_call 58; refine (HOF.out _).mono ?_; rintro e w' ⟨rfl, rfl⟩) | (go_at_call 26; refine (HBI.out _).mono ?_; rintro e w' ⟨rfl, rfl⟩) | (go_at_call 24; refine HM.out.mono ?_; rintro e w' ⟨rfl, hx⟩; have HXX := Lib.hid hx; clear hx))
          refine (bad_any (HR2.out.ext HXX.out).c1).mono ?_
          rintro e w4 ⟨hx4, hg⟩
          have hfin : Got w rb a len cap bs D (ValV w) e w4 := Got.gone D HD4.out ((HB2.out.ext HXX.out).ext hx4).low hg (by have := (HB2.out.ext HXX.out).1.size; omega)
          obtain ⟨p, ch, b, rfl, _⟩ := hg
          exact ⟨rfl, hfin⟩
      · have HD3 : Hid (D = none) := Lib.hid (by rw [HD2.out, if_neg hy])
        have hy' : ((y : Int) == (b : Int)) = false := by simp; omega
        have hy2 : ¬ (y : Int) = (b : Int) := by omega
        go_wp2_with (first | (go_at_call 58; refine (HOF.out _).mono ?_; rintro e w' ⟨rfl, rfl⟩) | (go_at_call 26; refine (HBI.out _).mono ?_; rintro e w' ⟨rfl, rfl⟩))
        refine (bad_any HR2.out.c1).mono ?_
        rintro e w4 ⟨hx4, hg⟩
        have hfin : Got w rb a len cap bs D (ValV w) e w4 := Got.gone D HD3.out (HB2.out.ext hx4).low hg (by have := HB2.out.1.size; omega)
        obtain ⟨p, ch, b, rfl, _⟩ := hg
        exact ⟨rfl, hfin⟩
end Go.Proofs.Ytnamcghcgcknpaa
