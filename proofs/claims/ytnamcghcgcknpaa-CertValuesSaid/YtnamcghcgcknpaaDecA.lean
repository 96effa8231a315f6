/-
  Reading a cert (chapter 24): Decode.
-/
import Derived.Test.YtnamcghcgcknpaaCertM
import Derived.Test.YtnamcghcgcknpaaCertO
namespace Go.Proofs.Ytnamcghcgcknpaa
open Go.RowKit
set_option linter.unusedVariables false

/-- The reader, whatever the bytes begin with. -/
theorem cert_any {w : World} {rb : Nat} {a : Option Addr} {len cap : Nat} {bs rest : List Nat} (h : Rd w rb a len cap bs rest) :
    Calls Try.prog 21 #[.pointer (some ⟨rb, 0, none⟩)] w (Got w rb a len cap bs (dCrtR rest) (CertR w)) := by
  have hlt := h.lt
  have hbyte : ∀ b ∈ rest, b < 256 := fun b hb => h.byte b (by obtain ⟨pre, hpre⟩ := h.suf; rw [hpre]; simp [hb])
  have key : ∀ (m cj n : Nat) (r0 : List Nat), rest = m :: cj :: n :: r0 → m = 67 → Calls Try.prog 21 #[.pointer (some ⟨rb, 0, none⟩)] w (Got w rb a len cap bs (dCrtR rest) (CertR w)) := by
    rintro m cj n r0 rfl rfl
    exact cert_try (hbyte n (by simp)) hlt (fun w rest h => value_any h) h
  have short : ∀ m cj n : Option Nat, dCrtR rest = none → (m = none → rest = []) → (∀ m', m = some m' → ∃ r, rest = m' :: r ∧ (m' ≠ 67 ∨ (m' = 67 ∧ ((cj = none ∧ r = []) ∨ ∃ cj', cj = some cj' ∧ r = [cj'])))) → Calls Try.prog 21 #[.pointer (some ⟨rb, 0, none⟩)] w (Got w rb a len cap bs (dCrtR rest) (CertR w)) := by
    intro m cj n hnone hm0 hm1
    have hbox0 : Cb w (w.alloc (Obj.cells #[.int .i64 0, .slice none 0 0, .slice none 0 0, .int .i64 0, .bool false, .slice none 0 0, .int .i64 0, .float .f64 0] 33)) rb #[.int .i64 0, .slice none 0 0, .slice none 0 0, .int .i64 0, .bool false, .slice none 0 0, .int .i64 0, .float .f64 0] := ⟨(Chg.refl w).alloc _, Blk.new _ _ _⟩
    have hrd0 : Rd (w.alloc (Obj.cells #[.int .i64 0, .slice none 0 0, .slice none 0 0, .int .i64 0, .bool false, .slice none 0 0, .int .i64 0, .float .f64 0] 33)) rb a len cap bs rest := h.chg (S := fun _ => False) ((Chg.refl w).alloc _) (fun _ _ h => h)
    have HB0 := Lib.hid hbox0
    have HR0 := Lib.hid hrd0
    have HH := Lib.hid (And.intro hm0 hm1)
    rw [hnone]
    clear hbox0 hrd0 h key hnone hm0 hm1 hbyte
    go_enter Try.func21, Try.ntmps21
    go_wp2_with fail
    refine (byte_any HR0.out).mono ?_
    rintro e w1 ⟨hc, hg⟩
    cases m with
    | none =>
      have hr := HH.out.1 rfl
      subst hr
      have hfin : Got w rb a len cap bs none (CertR w) e w1 := Got.gone none rfl (HB0.out.call hlt hc).low hg (by simp only [World.size_alloc]; omega)
      obtain ⟨p, ch, b, rfl, _⟩ := hg
      exact ⟨rfl, hfin⟩
    | some m =>
      obtain ⟨r, hr, hcase⟩ := HH.out.2 m rfl
      subst hr
      obtain ⟨v, rfl, ⟨rfl, hm256⟩, hrd⟩ := hg
      have HB1 := Lib.hid (HB0.out.call hlt hc)
      have HR1 := Lib.hid hrd
      have k0 := HB1.out.2.cell 0 _ rfl
      have f0 := HB1.out.2.frozen 0
      clear hc hrd HH
      rcases hcase with h67 | ⟨rfl, ⟨rfl, rfl⟩ | ⟨cj, rfl, rfl⟩⟩
      · have h67' : ((m : Int) == 67) = false := by simp; omega
        have h67'' : ¬ (m : Int) = 67 := by omega
        clear h67
        go_wp2_with fail
        refine (bad_any HR1.out.c1).mono ?_
        rintro e w4 ⟨hx4, hg⟩
        have hfin : Got w rb a len cap bs none (CertR w) e w4 := Got.gone none rfl (HB1.out.ext hx4).low hg (by have := HB1.out.size; omega)
        obtain ⟨p, ch, b, rfl, _⟩ := hg
        exact ⟨rfl, hfin⟩
      · go_wp2_with fail
        refine (byte_any HR1.out).mono ?_
        rintro e w4 ⟨hc, hg⟩
        have hfin : Got w rb a len cap bs none (CertR w) e w4 := Got.gone none rfl (HB1.out.call hlt hc).low hg (by have := HB1.out.size; omega)
        obtain ⟨p, ch, b, rfl, _⟩ := hg
        exact ⟨rfl, hfin⟩
      · go_wp2_with fail
        refine (byte_any HR1.out).mono ?_
        rintro e w2 ⟨hc, v, rfl, ⟨rfl, _⟩, hrd⟩
        have HB2 : Hid (Cb w (w2.setCell ⟨w.heap.size, 0, none⟩ (.int .i64 (cj : Int))) rb #[.int .i64 (cj : Int), .slice none 0 0, .slice none 0 0, .int .i64 0, .bool false, .slice none 0 0, .int .i64 0, .float .f64 0]) := Lib.hid ((HB1.out.call hlt hc).set 0 (.int .i64 (cj : Int)))
        have HR2 := Lib.hid (hrd.box hlt 0 (.int .i64 (cj : Int)))
        have k0 := (HB1.out.call hlt hc).2.cell 0 _ rfl
        have f0 := (HB1.out.call hlt hc).2.frozen 0
        clear hc hrd
        go_wp2_with fail
        refine (byte_any HR2.out).mono ?_
        rintro e w4 ⟨hc, hg⟩
        have hfin : Got w rb a len cap bs none (CertR w) e w4 := Got.gone none rfl (HB2.out.call hlt hc).low hg (by have := HB2.out.size; omega)
        obtain ⟨p, ch, b, rfl, _⟩ := hg
        exact ⟨rfl, hfin⟩
  match hrest : rest with
  | [] => exact short none none none rfl (fun _ => rfl) (fun m' h => by cases h)
  | [m] =>
    refine short (some m) none none rfl (fun h => by cases h) (fun m' h => ?_)
    cases h
    by_cases h67 : m = 67
    · exact ⟨_, rfl, .inr ⟨h67, .inl ⟨rfl, rfl⟩⟩⟩
    · exact ⟨_, rfl, .inl h67⟩
  | [m, cj] =>
    refine short (some m) (some cj) none rfl (fun h => by cases h) (fun m' h => ?_)
    cases h
    by_cases h67 : m = 67
    · exact ⟨_, rfl, .inr ⟨h67, .inr ⟨_, rfl, rfl⟩⟩⟩
    · exact ⟨_, rfl, .inl h67⟩
  | m :: cj :: n :: r0 =>
    by_cases h67 : m = 67
    · exact key m cj n r0 rfl h67
    · refine short (some m) none none (by simp [dCrtR, dCrt0, h67]) (fun h => by cases h) (fun m' h => ?_)
      cases h
      exact ⟨_, rfl, .inl h67⟩
end Go.Proofs.Ytnamcghcgcknpaa
