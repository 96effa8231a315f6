/-
  The walk of the law BailNested: true, and nothing that was there has turned.
-/
import Derived.Test.YtdiklblnilmpoaaBailF
import Derived.Deep.LoopGhost
import Derived.Laws.EntriesVeiled
namespace Go.Proofs.Ytdiklblnilmpoaa
open Go.RowKit
set_option linter.unusedVariables false

/-- What goes out of Only(k, g), its answer thrown away, where g ends so. -/
def past (k : Int) : Fin → Fin
  | .ret => .ret
  | .bail c a => if c = k then .ret else .bail c a
  | .other t x => .other t x
theorem nested1_runs (b : Nat) (code : Int) (w : World) (hb : Box w b (.int .i64 code)) :
    Runs NoD (.func (.func 15) #[] #[.pointer (some ⟨b, 0, none⟩)]) w (fun o _ => o = .bail code 5) := by
  refine Runs.of (fun args w => run_enter Try.func15 rfl rfl args w) ?_
  have cb := hb.cell
  go_enter Try.func15, Try.ntmps15
  go_wp2_with fail
  refine (out_fin (D := NoD) code 5 w loc_none (there_none w)).mono ?_
  rintro e w' ⟨hk, he, _⟩
  obtain ⟨ch, b, rfl, rest⟩ := he
  exact ⟨rfl, hk, .bail code 5, ⟨ch, b, rfl, rest⟩, rfl⟩
theorem nested2_runs (b8 b7 : Nat) (k : Int) (fv : Value) (F : Fin) (w : World) (h8 : Box w b8 (.int .i64 k)) (h7 : Box w b7 fv) (hr : ∀ w1, Ext w w1 → Runs NoD fv w1 (fun o _ => o = F)) :
    Runs NoD (.func (.func 17) #[] #[.pointer (some ⟨b8, 0, none⟩), .pointer (some ⟨b7, 0, none⟩)]) w (fun o _ => o = past k F) := by
  refine Runs.of (fun args w => run_enter Try.func17 rfl rfl args w) ?_
  have c8 := h8.cell
  have c7 := h7.cell
  have HO := Lib.hid (only_runs (code := k) loc_none (there_none w) hr)
  clear hr
  go_enter Try.func17, Try.ntmps17
  go_wp2_with fail
  refine HO.out.mono ?_
  rintro e w' ⟨o, w2, hk, rfl, ⟨hk', _⟩, he⟩
  cases o with
  | ret =>
    simp only at he
    subst he
    go_wp2_with fail
    go_end0
    exact ⟨hk', .ret, rfl, rfl⟩
  | bail c a =>
    by_cases hc : c = k
    · simp only [if_pos hc] at he
      subst he
      have hp : past k (.bail c a) = .ret := by simp [past, hc]
      clear hc
      go_wp2_with fail
      go_end0
      exact ⟨hk', .ret, rfl, hp.symm⟩
    · simp only [if_neg hc] at he
      have hp : past k (.bail c a) = .bail c a := by simp [past, hc]
      have he0 := he
      obtain ⟨ch, b, rfl, rest⟩ := he
      exact ⟨rfl, hk', .bail c a, he0, hp.symm⟩
  | other t x =>
    have he0 := he
    obtain ⟨ch, rfl, rest⟩ := he
    exact ⟨rfl, hk', .other t x, he0, rfl⟩
/-- What the nest over l ends with. -/
def nest (code : Int) (l : List Int) : Fin := l.foldl (fun o k => past k o) (.bail code 5)
theorem nest_met (code : Int) (l : List Int) : nest code l = if l.any (· == code) then .ret else .bail code 5 := by
  unfold nest
  suffices h : ∀ (l : List Int) (m : Bool), l.foldl (fun o k => past k o) (if m then .ret else .bail code 5) = if m || l.any (· == code) then .ret else .bail code 5 by simpa using h l false
  intro l
  induction l with
  | nil => intro m; simp
  | cons x l ih =>
    intro m
    rw [List.foldl_cons]
    have : past x (if m = true then Fin.ret else Fin.bail code 5) = if (m || (x == code)) = true then Fin.ret else Fin.bail code 5 := by
      cases m with
      | true => simp [past]
      | false =>
        by_cases hx : x = code
        · simp [past, hx]
        · have : ¬ code = x := fun h => hx h.symm
          simp [past, hx, this]
    rw [this, ih]
    simp [Bool.or_assoc]
theorem nest_snoc (code : Int) (l : List Int) (k : Int) : nest code (l ++ [k]) = past k (nest code l) := by simp [nest]

/-- The two words for 'met': as it is reckoned, and as the nest has it. -/
theorem any_snoc (l : List Int) (i : Nat) (code : Int) (h : i < l.length) : (l.take (i + 1)).any (· == code) = ((l.take i).any (· == code) || (l.getD i 0 == code)) := by
  rw [List.take_succ_eq_append_getElem h, List.any_append]
  simp [List.getD_eq_getElem?_getD, List.getElem?_eq_getElem h]
theorem nest_step (code : Int) (l : List Int) (i : Nat) (h : i < l.length) : nest code (l.take (i + 1)) = past (l.getD i 0) (nest code (l.take i)) := by
  rw [List.take_succ_eq_append_getElem h, nest_snoc]
  simp [List.getD_eq_getElem?_getD, List.getElem?_eq_getElem h]
structure NSt (W wr : World) (code : Int) (zs : List Int) (i : Nat) (g : Nat) (cap : Array Value) : Prop where
  bel : Ext W wr
  h3 : Box wr W.heap.size (.int .i64 code)
  run : ∀ w', Ext wr w' → Runs NoD (.func (.func g) #[] cap) w' (fun o _ => o = nest code (zs.take i))
/-- One literal more around the nest. -/
theorem NSt.step {W wr : World} {code : Int} {zs : List Int} {i g : Nat} {cap : Array Value} (h : NSt W wr code zs i g cap) (hi : i < zs.length) (t u : Nat) :
    NSt W ((wr.alloc (.cells #[.func (.func g) #[] cap] t)).alloc (.cells #[.int .i64 (zs.getD i 0)] u)) code zs (i + 1) 17 #[.pointer (some ⟨wr.heap.size + 1, 0, none⟩), .pointer (some ⟨wr.heap.size, 0, none⟩)] := by
  have e : Ext wr ((wr.alloc (.cells #[.func (.func g) #[] cap] t)).alloc (.cells #[.int .i64 (zs.getD i 0)] u)) := ((Chg.refl _).alloc _).alloc _
  have b0 := (Box.new (w := wr) (.func (.func g) #[] cap) t).chg (S := fun _ => False) ((Chg.refl _).alloc (.cells #[.int .i64 (zs.getD i 0)] u)) (fun h => h)
  have b1 := Box.new (w := wr.alloc (.cells #[.func (.func g) #[] cap] t)) (.int .i64 (zs.getD i 0)) u
  rw [World.size_alloc] at b1
  refine ⟨h.bel.trans e, h.h3.chg e (fun h => h), fun w' he => ?_⟩
  rw [nest_step code zs i hi]
  exact nested2_runs _ _ _ _ _ w' (b1.chg he (fun h => h)) (b0.chg he (fun h => h)) fun w1 he1 => h.run w1 ((e.trans he).trans he1)
theorem NSt.ext {W wr w' : World} {code : Int} {zs : List Int} {i g : Nat} {cap : Array Value} (h : NSt W wr code zs i g cap) (e : Ext wr w') : NSt W w' code zs i g cap :=
  ⟨h.bel.trans e, h.h3.chg e (fun h => h), fun w2 he => h.run w2 (e.trans he)⟩
theorem NSt.start (W : World) (code : Int) (zs : List Int) (t : Nat) : NSt W (W.alloc (.cells #[.int .i64 code] t)) code zs 0 15 #[.pointer (some ⟨W.heap.size, 0, none⟩)] :=
  ⟨(Chg.refl W).alloc _, Box.new _ _, fun w' he => nested1_runs _ _ w' ((Box.new (w := W) (.int .i64 code) t).chg he (fun h => h))⟩

def IsRow (k : IntKind) (w : World) (a : Option Addr) (len cap : Nat) (zs : List Int) : Prop :=
  (a = none ∧ len = 0 ∧ cap = 0 ∧ zs = []) ∨
  ∃ x, a = some x ∧ len ≤ cap ∧ cap ≤ maxLen ∧ zs.length = cap ∧ (∀ i, i < zs.length → w.cell? (x.add i) = some (.int k (zs.getD i 0))) ∧ ∀ n ∈ zs, (Lit.int k n).wf = true

theorem nested_walk (a0 : Option Addr) (len0 cap0 : Nat) (z0 : List Int) (a1 : Int) (w : World) (w0 : IsRow .i64 w a0 len0 cap0 z0) (w1 : (Lit.int .i64 a1).wf = true) :
    Calls Try.prog 4 #[.slice a0 len0 cap0, .int .i64 a1] w fun e w' => e = .returned (.bool true) ∧ Below w.heap.size w w' := by
  clear w1
  have hlen : len0 ≤ 9223372036854775807 := by
    rcases w0 with ⟨_, h, _⟩ | ⟨x, _, h, h2, _⟩
    · omega
    · unfold maxLen at h2; omega
  have HW := Lib.hid w0
  clear w0
  have cb : (w.alloc (Obj.cells #[Value.int .i64 a1] 3)).cell? ⟨w.heap.size, 0, none⟩ = some (.int .i64 a1) := (Box.new _ _).cell
  have hb : Hid (Ext w (w.alloc (Obj.cells #[Value.int .i64 a1] 3))) := (Chg.refl w).alloc _
  by_cases hout : 30 < len0 ∨ a1 < 1 ∨ 16 < a1
  · rcases (by omega : 30 < len0 ∨ (¬ 30 < len0 ∧ a1 < 1) ∨ (¬ 30 < len0 ∧ ¬ a1 < 1 ∧ 16 < a1)) with h | ⟨h, h'⟩ | ⟨h, h', h''⟩
    · have h1 : (30 : Int) < (len0 : Int) := by omega
      clear hout h
      go_enter Try.func4, Try.ntmps4
      go_wp2_with fail
      refine (awake_any _).mono ?_
      rintro e w2 ⟨rfl, h2⟩
      go_wp2
      go_ret
      exact ⟨rfl, Ext.below (hb.out.trans h2)⟩
    · have h1 : ¬ (30 : Int) < (len0 : Int) := by omega
      clear hout h
      go_enter Try.func4, Try.ntmps4
      go_wp2_with fail
      refine (awake_any _).mono ?_
      rintro e w2 ⟨rfl, h2⟩
      go_wp2
      go_ret
      exact ⟨rfl, Ext.below (hb.out.trans h2)⟩
    · have h1 : ¬ (30 : Int) < (len0 : Int) := by omega
      clear hout h
      go_enter Try.func4, Try.ntmps4
      go_wp2_with fail
      refine (awake_any _).mono ?_
      rintro e w2 ⟨rfl, h2⟩
      go_wp2
      go_ret
      exact ⟨rfl, Ext.below (hb.out.trans h2)⟩
  · have h1 : ¬ (30 : Int) < (len0 : Int) := by omega
    have h2 : ¬ a1 < 1 := by omega
    have h3 : ¬ 16 < a1 := by omega
    clear hout
    go_enter Try.func4, Try.ntmps4
    have hmf := run_mkFunc
    go_wp2_with fail
    clear hb cb
    go_loopg [5, 6] len0 (fun gg l5 l6 wr => ∃ (i g : Nat) (cap : Array Value), i ≤ len0 ∧ NSt w wr a1 z0 i g cap ∧ l5 = .func (.func g) #[] cap ∧ l6 = .int .i64 i ∧ gg = len0 - i)
    case atStart => exact ⟨0, _, _, Nat.zero_le _, NSt.start w a1 z0 _, rfl, rfl, rfl⟩
    case round =>
      obtain ⟨i, g, cap, hile, hst, rfl, rfl, rfl⟩ := hrel
      by_cases hi : i < len0
      · obtain ⟨x, rfl, hlc, hcm, hzl, hcell, hwz⟩ : ∃ x, a0 = some x ∧ len0 ≤ cap0 ∧ cap0 ≤ maxLen ∧ z0.length = cap0 ∧ (∀ i, i < z0.length → w.cell? (x.add i) = some (.int .i64 (z0.getD i 0))) ∧ ∀ n ∈ z0, (Lit.int .i64 n).wf = true := by
          rcases HW.out with ⟨_, h, _⟩ | h
          · omega
          · exact h
        have hci := hcell i (by omega)
        have hcr : (wr.alloc (.cells #[.func (.func g) #[] cap] 1)).cell? (x.add i) = some (.int .i64 (z0.getD i 0)) := by
          have e := hst.bel.trans ((Chg.refl wr).alloc (.cells #[.func (.func g) #[] cap] 1))
          rw [e.cell (lt_of_cell hci) (fun h => h)]; exact hci
        have hi1 : 0 ≤ (i : Int) := by omega
        have hi2 : (i : Int) < (len0 : Int) := by omega
        have hst2 := hst.step (show i < z0.length by omega) 1 26
        obtain ⟨n, hn⟩ : ∃ n, z0.getD i 0 = n := ⟨_, rfl⟩
        rw [hn] at hst2 hcr
        have HS := Lib.hid hst2
        clear hst hst2 hn hci hcell hwz HW
        go_wp2_with fail
        go_roundg (len0 - (i + 1))
        case measure => omega
        case rel => exact ⟨i + 1, _, _, by omega, HS.out, rfl, by go_num, rfl⟩
      · have hi' : ¬ (i : Int) < (len0 : Int) := by omega
        obtain rfl : i = len0 := by omega
        clear hi
        have HS := Lib.hid hst
        clear hst
        obtain ⟨wo, rfl⟩ : ∃ wo : World, wo = wr := ⟨_, rfl⟩
        go_wp2_with fail
        go_loopg [9, 10] i (fun gg l9 l10 w2 => ∃ (j : Nat), j ≤ i ∧ Ext wo w2 ∧ l9 = .bool ((z0.take j).any (· == a1)) ∧ l10 = .int .i64 j ∧ gg = i - j)
        case atStart => exact ⟨0, Nat.zero_le _, Chg.refl _, rfl, rfl, rfl⟩
        case round =>
          obtain ⟨j, hjle, he, rfl, rfl, rfl⟩ := hrel
          have c3 := (HS.out.ext he).h3.cell
          have hlz : i ≤ z0.length := by
            rcases HW.out with ⟨_, h, _⟩ | ⟨x, _, h, _, h2, _⟩
            · omega
            · omega
          by_cases hj : j < i
          · obtain ⟨x, rfl, hlc, hcm, hzl, hcell, hwz⟩ : ∃ x, a0 = some x ∧ i ≤ cap0 ∧ cap0 ≤ maxLen ∧ z0.length = cap0 ∧ (∀ i, i < z0.length → w.cell? (x.add i) = some (.int .i64 (z0.getD i 0))) ∧ ∀ n ∈ z0, (Lit.int .i64 n).wf = true := by
              rcases HW.out with ⟨_, h, _⟩ | h
              · omega
              · exact h
            have hci := hcell j (by omega)
            have hcr : wr.cell? (x.add j) = some (.int .i64 (z0.getD j 0)) := by
              have e := HS.out.bel.trans he
              rw [e.cell (lt_of_cell hci) (fun h => h)]; exact hci
            have hi1 : 0 ≤ (j : Int) := by omega
            have hi2 : (j : Int) < (i : Int) := by omega
            have hsn := any_snoc z0 j a1 (by omega)
            obtain ⟨n, hn⟩ : ∃ n, z0.getD j 0 = n := ⟨_, rfl⟩
            rw [hn] at hsn hcr
            have HE := Lib.hid he
            generalize hm : (z0.take j).any (· == a1) = m at *
            have HSN := Lib.hid hsn
            clear hsn hn hci hcell hwz HW hm he hlz hzl
            cases m with
            | true =>
              go_wp2_with fail
              go_quiet (fail)
              go_wp2_with fail
              go_roundg (i - (j + 1))
              case measure => omega
              case rel => exact ⟨j + 1, by omega, HE.out.drewN _, by rw [HSN.out]; rfl, by go_num, rfl⟩
            | false =>
              go_wp2_with fail
              go_quiet (fail)
              go_wp2_with fail
              go_roundg (i - (j + 1))
              case measure => omega
              case rel => exact ⟨j + 1, by omega, HE.out.drewN _, by rw [HSN.out]; rfl, by go_num, rfl⟩
          · have hj' : ¬ (j : Int) < (i : Int) := by omega
            obtain rfl : j = i := by omega
            clear hj
            have hst := HS.out.ext he
            have hrun := catch_runs loc_none (there_none wr) hst.run
            have HB := Lib.hid hst.bel
            have H3 := Lib.hid hst.h3
            have HC := Lib.hid hrun
            have hN := nest_met a1 (z0.take j)
            generalize hm : (z0.take j).any (· == a1) = m at *
            have HNN := Lib.hid hN
            clear hm hst hrun HS he hN HW hlz c3
            cases m with
            | true =>
              go_wp2_with fail
              refine HC.out.mono ?_
              rintro e w' ⟨o, w2, hk2, ho, ⟨hk, hch⟩, he⟩
              rw [HNN.out] at ho
              simp only [if_true] at ho
              subst ho
              simp only at he
              subst he
              have HE : Hid (Ext w w') := HB.out.trans hk.ext
              clear hk2 hk hch
              go_wp2_with (go_at_call 8; refine (awake_any _).mono ?_; rintro e w3 ⟨rfl, h3⟩)
              go_ret
              exact ⟨rfl, Ext.below (HE.out.trans h3)⟩
            | false =>
              go_wp2_with fail
              refine HC.out.mono ?_
              rintro e w' ⟨o, w2, hk2, ho, ⟨hk, hch⟩, he⟩
              rw [HNN.out] at ho
              simp only [if_false, Bool.false_eq_true] at ho
              subst ho
              simp only at he
              subst he
              have HE : Hid (Ext w w') := HB.out.trans hk.ext
              have c3 := (H3.out.keep hk (fun h => h)).cell
              clear hk2 hk hch
              go_wp2_with (go_at_call 8; refine (awake_any _).mono ?_; rintro e w3 ⟨rfl, h3⟩)
              go_ret
              exact ⟨rfl, Ext.below (HE.out.trans h3)⟩
end Go.Proofs.Ytdiklblnilmpoaa
