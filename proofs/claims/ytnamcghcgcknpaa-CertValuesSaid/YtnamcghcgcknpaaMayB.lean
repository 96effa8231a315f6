/-
  What certs may be (chapter 24), but for their claim.
-/
import Derived.Test.YtnamcghcgcknpaaMayA
namespace Go.Proofs.Ytnamcghcgcknpaa
open Go.RowKit
set_option linter.unusedVariables false

/-- The walks' slices. -/
def WalkRows (w : World) : List Value → List (List (Int × Bool)) → Prop
  | [], [] => True
  | u :: us, l :: ls => (∃ a cap, u = .slice a l.length cap ∧ Cells w a l.length cap (stepsI l)) ∧ WalkRows w us ls
  | _, _ => False
theorem WalkRows.get {w : World} : ∀ {us : List Value} {ls : List (List (Int × Bool))}, WalkRows w us ls → us.length = ls.length ∧ ∀ (i : Nat) (l : List (Int × Bool)), ls[i]? = some l → ∃ a cap, us[i]? = some (Value.slice a l.length cap) ∧ Cells w a l.length cap (stepsI l)
  | [], [], _ => ⟨rfl, fun i l h => by simp at h⟩
  | u :: us, l :: ls, h => by
    obtain ⟨⟨a, cap, rfl, hc⟩, ht⟩ := h
    obtain ⟨h1, h2⟩ := WalkRows.get ht
    refine ⟨by simp [h1], fun i m hm => ?_⟩
    cases i with
    | zero =>
      obtain rfl := (by simpa using hm)
      exact ⟨a, cap, rfl, hc⟩
    | succ i => simpa using h2 i m (by simpa using hm)
  | [], _ :: _, h => h.elim
  | _ :: _, [], h => h.elim
theorem WalkRows.chg {S : Nat → Prop} {w w' : World} (k : Chg S w w') (hS : ∀ b, b < w.heap.size → ¬ S b) : ∀ {us : List Value} {ls : List (List (Int × Bool))}, WalkRows w us ls → WalkRows w' us ls
  | [], [], _ => trivial
  | u :: us, l :: ls, h => by
    obtain ⟨⟨a, cap, rfl, hc⟩, ht⟩ := h
    exact ⟨⟨a, cap, rfl, hc.chg k hS⟩, WalkRows.chg k hS ht⟩
  | [], _ :: _, h => h.elim
  | _ :: _, [], h => h.elim
/-- A cert as it is handed on. -/
structure CrtV (w : World) (c : Crt) (a1 : Option Addr) (cap1 : Nat) (a2 : Option Addr) (cap2 : Nat) (a3 : Option Addr) (cap3 : Nat) (us : List Value) : Prop where
  nodes : Cells w a1 c.nodes.length cap1 (c.nodes.map (Value.int .i64))
  walks : Cells w a2 c.walks.length cap2 us
  rows : WalkRows w us c.walks
  words : Cells w a3 c.claim.w.length cap3 (wordCells c.claim.w)
theorem CrtV.chg {S : Nat → Prop} {w w' : World} {c : Crt} {a1 : Option Addr} {cap1 : Nat} {a2 : Option Addr} {cap2 : Nat} {a3 : Option Addr} {cap3 : Nat} {us : List Value} (h : CrtV w c a1 cap1 a2 cap2 a3 cap3 us) (k : Chg S w w') (hS : ∀ b, b < w.heap.size → ¬ S b) : CrtV w' c a1 cap1 a2 cap2 a3 cap3 us :=
  ⟨h.nodes.chg k hS, h.walks.chg k hS, h.rows.chg k hS, h.words.chg k hS⟩
theorem CrtV.ext {w w' : World} {c : Crt} {a1 : Option Addr} {cap1 : Nat} {a2 : Option Addr} {cap2 : Nat} {a3 : Option Addr} {cap3 : Nat} {us : List Value} (h : CrtV w c a1 cap1 a2 cap2 a3 cap3 us) (k : Ext w w') : CrtV w' c a1 cap1 a2 cap2 a3 cap3 us := h.chg k fun _ _ h => h
def crtV (c : Crt) (a1 : Option Addr) (cap1 : Nat) (a2 : Option Addr) (cap2 : Nat) (a3 : Option Addr) (cap3 : Nat) : Value :=
  .agg #[.int .i64 c.conj, .slice a1 c.nodes.length cap1, .slice a2 c.walks.length cap2, .int .i64 c.claim.sem, .bool c.claim.inf, .slice a3 c.claim.w.length cap3, .int .i64 c.claim.level, .float .f64 c.claim.x]
def okN (n : Int) : Bool := decide (1 ≤ n ∧ n ≤ 1000)
def okW (w : List (Int × Bool)) : Bool := decide (w.length ≤ 2000) && w.all okS
theorem mayC_eq (c : Crt) : mayC c = (decide (0 ≤ c.conj ∧ c.conj ≤ 255 ∧ c.nodes.length ≤ 5 ∧ c.walks.length ≤ 6) && c.nodes.all okN && c.walks.all okW) := rfl
theorem int_cell {w : World} {a : Option Addr} {n cap : Nat} {l : List Int} (h : Cells w a n cap (l.map (Value.int .i64))) {i : Nat} {z : Int} (hi : l[i]? = some z) : ∃ x, a = some x ∧ w.cell? (x.add i) = some (.int .i64 z) :=
  h.2.2 i _ (by simp [hi])
theorem all_false {α : Type} {p : α → Bool} {l : List α} {i : Nat} {x : α} (hi : l[i]? = some x) (hp : p x = false) : l.all p = false :=
  Bool.eq_false_iff.2 fun h => by have := List.all_eq_true.1 h x (List.mem_of_getElem? hi); rw [hp] at this; cases this
theorem all_true {α : Type} {p : α → Bool} {l : List α} (h : ∀ (j : Nat) (x : α), j < l.length → l[j]? = some x → p x = true) : l.all p = true :=
  List.all_eq_true.2 fun x hx => by
    obtain ⟨j, hj, rfl⟩ := List.mem_iff_getElem.1 hx
    exact h j _ hj (List.getElem?_eq_getElem hj)
theorem all_step {α : Type} {p : α → Bool} {l : List α} {i : Nat} {x : α} (h : ∀ (j : Nat) (x : α), j < i → l[j]? = some x → p x = true) (hi : l[i]? = some x) (hp : p x = true) : ∀ (j : Nat) (x : α), j < i + 1 → l[j]? = some x → p x = true := by
  intro j y hj hy
  rcases Nat.lt_or_ge j i with h' | h'
  · exact h j y h' hy
  · obtain rfl : j = i := by omega
    rw [hi] at hy
    cases hy
    exact hp
set_option maxHeartbeats 2000000 in
theorem mayC_any {w : World} {c : Crt} {a1 : Option Addr} {cap1 : Nat} {a2 : Option Addr} {cap2 : Nat} {a3 : Option Addr} {cap3 : Nat} {us : List Value} (h : CrtV w c a1 cap1 a2 cap2 a3 cap3 us) :
    Calls Try.prog 22 #[crtV c a1 cap1 a2 cap2 a3 cap3] w fun e w' => e = .returned (.bool (mayC c)) ∧ Ext w w' := by
  have hx : Ext w (w.alloc (Obj.cells #[.int .i64 c.conj, .slice a1 c.nodes.length cap1, .slice a2 c.walks.length cap2, .int .i64 c.claim.sem, .bool c.claim.inf, .slice a3 c.claim.w.length cap3, .int .i64 c.claim.level, .float .f64 c.claim.x] 33)) := (Chg.refl w).alloc _
  have hc1 := h.nodes.1
  have hc2 := h.walks.1
  have hm1 := h.nodes.2.1
  have hm2 := h.walks.2.1
  unfold maxLen at hm1 hm2
  have H := Lib.hid h
  unfold crtV
  rw [mayC_eq]
  obtain ⟨conj, ns, ws, ⟨sem, inf, l, level, x⟩⟩ := c
  simp only at hx hc1 hc2 H ⊢
  have hb := Blk.new w #[.int .i64 conj, .slice a1 ns.length cap1, .slice a2 ws.length cap2, .int .i64 sem, .bool inf, .slice a3 l.length cap3, .int .i64 level, .float .f64 x] 33
  have HBX := Lib.hid hb
  clear h hb
  have HX := Lib.hid hx
  clear hx
  obtain ⟨n, hn⟩ : ∃ n, ns.length = n := ⟨_, rfl⟩
  obtain ⟨m, hm⟩ : ∃ n, ws.length = n := ⟨_, rfl⟩
  obtain ⟨k, hk⟩ : ∃ n, l.length = n := ⟨_, rfl⟩
  rw [hn] at hc1
  rw [hm] at hc2
  rw [hn, hm, hk] at HX HBX ⊢
  have HL := Lib.hid (And.intro hn (And.intro hm hk))
  clear hn hm hk
  obtain ⟨R, hR⟩ : ∃ R, (decide (0 ≤ conj ∧ conj ≤ 255 ∧ n ≤ 5 ∧ m ≤ 6) && ns.all okN && ws.all okW) = R := ⟨_, rfl⟩
  rw [hR]
  have HR := Lib.hid hR
  clear hR
  by_cases hbad : 0 ≤ conj ∧ conj ≤ 255 ∧ n ≤ 5 ∧ m ≤ 6
  · obtain ⟨h1, h2, h3, h4⟩ := hbad
    have h3' : (n : Int) ≤ 5 := by omega
    have h4' : (m : Int) ≤ 6 := by omega
    have hR2 := HR.out
    rw [decide_eq_true (show 0 ≤ conj ∧ conj ≤ 255 ∧ n ≤ 5 ∧ m ≤ 6 from ⟨h1, h2, h3, h4⟩), Bool.true_and] at hR2
    have HR2 := Lib.hid hR2
    clear hR2 HR
    go_enter Try.func22, Try.ntmps22
    go_wp2_with fail
    go_loopg [30] n (fun g l30 wr => ∃ i : Nat, Ext w wr ∧ Blk wr w.heap.size #[.int .i64 conj, .slice a1 n cap1, .slice a2 m cap2, .int .i64 sem, .bool inf, .slice a3 k cap3, .int .i64 level, .float .f64 x] 33 ∧ i ≤ n ∧ (∀ (j : Nat) (z : Int), j < i → ns[j]? = some z → okN z = true) ∧ l30 = .int .i64 i ∧ g = n - i)
    case atStart => exact ⟨0, HX.out, HBX.out, Nat.zero_le _, fun j s hj => by omega, rfl, rfl⟩
    case round =>
      obtain ⟨i, hex, hbk, hi, hall, rfl, rfl⟩ := hrel
      have HE := Lib.hid hex
      have HA := Lib.hid hall
      have HK := Lib.hid hbk
      clear hall hex hbk
      by_cases hin : i < n
      · have hin' : (i : Int) < n := by omega
        obtain ⟨z, hz⟩ : ∃ z, ns[i]? = some z := ⟨_, List.getElem?_eq_getElem (by rw [HL.out.1]; exact hin)⟩
        obtain ⟨x, rfl, c0⟩ := int_cell H.out.nodes hz
        have d0 : wr.cell? (x.add i) = some (.int .i64 z) := by rw [HE.out.cell (lt_of_cell c0) (fun h => h)]; exact c0
        have HZ := Lib.hid hz
        clear c0 hz
        by_cases hok : 1 ≤ z ∧ z ≤ 1000
        · obtain ⟨z1, z2⟩ := hok
          go_wp2_with fail
          go_roundg (n - (i + 1))
          case measure => omega
          case rel => exact ⟨i + 1, HE.out, HK.out, by omega, all_step HA.out HZ.out (by simp [okN, z1, z2]), rfl, rfl⟩
        · have hRf : R = false := by
            rw [← HR2.out, all_false HZ.out (by simp [okN]; omega)]; rfl
          have HRF := Lib.hid hRf
          clear hRf
          by_cases z1 : z < 1
          · go_wp2_with fail
            go_ret
            rw [HRF.out]
            exact ⟨rfl, HE.out⟩
          · have z2 : 1000 < z := by omega
            go_wp2_with fail
            go_ret
            rw [HRF.out]
            exact ⟨rfl, HE.out⟩
      · have hin' : ¬ (i : Int) < n := by omega
        have hA1 : ns.all okN = true := all_true fun j z hj hz => HA.out j z (by rw [HL.out.1] at hj; omega) hz
        have hR3 := HR2.out
        rw [hA1, Bool.true_and] at hR3
        have HR3 := Lib.hid hR3
        have c2 := HK.out.cell 2 _ rfl
        clear hR3 hA1 HA
        go_wp2_with fail
        go_loopg [44] m (fun g l44 wx => ∃ j : Nat, Ext w wx ∧ j ≤ m ∧ (∀ (i : Nat) (z : List (Int × Bool)), i < j → ws[i]? = some z → okW z = true) ∧ l44 = .int .i64 j ∧ g = m - j)
        case atStart => exact ⟨0, HE.out, Nat.zero_le _, fun j s hj => by omega, rfl, rfl⟩
        case round =>
          obtain ⟨j, hex, hj, hall, rfl, rfl⟩ := hrel
          have HE2 := Lib.hid hex
          have HA := Lib.hid hall
          clear hall hex
          by_cases hjm : j < m
          · have hjm' : (j : Int) < m := by omega
            obtain ⟨z, hz⟩ : ∃ z, ws[j]? = some z := ⟨_, List.getElem?_eq_getElem (by rw [HL.out.2.1]; exact hjm)⟩
            obtain ⟨au, capu, hu, hcu⟩ := (H.out.rows.get).2 j z hz
            obtain ⟨x, rfl, c0⟩ := H.out.walks.2.2 j _ hu
            have d0 := (HE2.out.cell (lt_of_cell c0) (fun h => h)).trans c0
            have hcu2 := hcu.chg HE2.out (fun _ _ h => h)
            have HCN := Lib.hid (contains_any hcu2)
            have HZ := Lib.hid hz
            have hlu := hcu.1
            have hmu := hcu.2.1
            unfold maxLen at hmu
            clear c0 hz hu hcu hcu2
            obtain ⟨q, hq⟩ : ∃ q, z.length = q := ⟨_, rfl⟩
            obtain ⟨Bz, hBz⟩ : ∃ Bz, z.all okS = Bz := ⟨_, rfl⟩
            rw [hq] at d0 HCN hlu
            rw [hBz] at HCN
            have HQ := Lib.hid (And.intro hq hBz)
            clear hq hBz
            by_cases hq2 : 2000 < q
            · have hq2' : (2000 : Int) < q := by omega
              have hRf : R = false := by
                rw [← HR3.out, all_false HZ.out (by simp [okW, HQ.out.1]; omega)]
              have HRF := Lib.hid hRf
              clear hRf
              go_wp2_with fail
              go_ret
              rw [HRF.out]
              exact ⟨rfl, HE2.out⟩
            · have hq2' : ¬ (2000 : Int) < q := by omega
              cases Bz with
              | true =>
                go_wp2_with (go_at_call 47; refine HCN.out.mono ?_; rintro e w' ⟨rfl, hx⟩)
                go_roundg (m - (j + 1))
                case measure => omega
                case rel => exact ⟨j + 1, HE2.out.trans hx, by omega, all_step HA.out HZ.out (by simp [okW, HQ.out.1, HQ.out.2]; omega), rfl, rfl⟩
              | false =>
                have hRf : R = false := by
                  rw [← HR3.out, all_false HZ.out (by simp [okW, HQ.out.1, HQ.out.2])]
                have HRF := Lib.hid hRf
                clear hRf
                go_wp2_with (go_at_call 47; refine HCN.out.mono ?_; rintro e w' ⟨rfl, hx⟩)
                go_ret
                rw [HRF.out]
                exact ⟨rfl, HE2.out.trans hx⟩
          · have hjm' : ¬ (j : Int) < m := by omega
            have hRt : R = true := by
              rw [← HR3.out]
              exact all_true fun i z hi hz => HA.out i z (by rw [HL.out.2.1] at hi; omega) hz
            have HRT := Lib.hid hRt
            clear hRt
            go_wp2_with fail
            go_ret
            rw [HRT.out]
            exact ⟨rfl, HE2.out⟩
  · have hRf : R = false := by rw [← HR.out, decide_eq_false hbad]; rfl
    have HRF := Lib.hid hRf
    clear hRf
    by_cases h1 : conj < 0
    · go_enter Try.func22, Try.ntmps22
      go_wp2_with fail
      go_ret
      rw [HRF.out]
      exact ⟨rfl, HX.out⟩
    · by_cases h2 : 255 < conj
      · go_enter Try.func22, Try.ntmps22
        go_wp2_with fail
        go_ret
        rw [HRF.out]
        exact ⟨rfl, HX.out⟩
      · by_cases h3 : 5 < n
        · have h3' : (5 : Int) < n := by omega
          go_enter Try.func22, Try.ntmps22
          go_wp2_with fail
          go_ret
          rw [HRF.out]
          exact ⟨rfl, HX.out⟩
        · have h3' : ¬ (5 : Int) < n := by omega
          have h4' : (6 : Int) < m := by omega
          go_enter Try.func22, Try.ntmps22
          go_wp2_with fail
          go_ret
          rw [HRF.out]
          exact ⟨rfl, HX.out⟩
end Go.Proofs.Ytnamcghcgcknpaa
