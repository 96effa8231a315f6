/-
  A map that is keyed by two numbers. What the search asks: is a node there; what is a token worth where nothing is weighed. Is a node there? Is a node there (yes or no); is a number among others. What a token is worth where some edges alone may be used. What a machine's moves do is what its path says, over any things that its letters lead between. May a path's word be empty: of the path itself and of the plain one.
-/
import Derived.Test.YtkhllknahjmciaaGreatM22
import Derived.WideMake
import Derived.Test.YtkhllknahjmciaaGreatM08
/-! A map that is keyed by two numbers. -/
namespace Go.Proofs.YtkhllknahjmciaaGreat
open Go.RowKit
set_option linter.unusedVariables false
set_option linter.unusedSimpArgs false

/-- A place as a key. -/
def pK (a b : Int) : Value := .agg #[.int .i64 a, .int .i64 b]
theorem run_eqIntIn (n : Nat) (w : World) (a b : Int) : (Op.equalIn (n + 1) 3 (.int .i64 a) (.int .i64 b)).run Tryz.prog w = .ok (a == b) w := by
  rw [Op.equalIn]
  simp [run_underlying Tryz.underlying3]
theorem run_eqPlaceIn (n : Nat) (w : World) (a b c d : Int) : (Op.equalIn (n + 2) 207 (pK a b) (pK c d)).run Tryz.prog w = .ok (a == c && b == d) w := by
  unfold pK
  rw [Op.equalIn]
  simp [run_underlying Tryz.underlying207, run_eqIntIn, part]
  by_cases h1 : a = c <;> by_cases h2 : b = d <;> simp [h1, h2]
theorem run_eqPlace (w : World) (a b c d : Int) : (Op.equal 207 (pK a b) (pK c d)).run Tryz.prog w = .ok (a == c && b == d) w := run_eqPlaceIn 9998 w a b c d
theorem run_checkPlace (empty : Bool) (w : World) (a b : Int) : (Instr.checkKey empty 10000 207 (pK a b)).run Tryz.prog w = .ok () w := by
  show (Instr.checkKey empty (9998 + 1 + 1) 207 (pK a b)).run Tryz.prog w = .ok () w
  generalize 9998 = n
  have hI : ∀ (w : World) (v : Int), (Instr.checkKey empty (n + 1) 3 (.int .i64 v)).run Tryz.prog w = .ok () w := fun w v => by
    rw [Instr.checkKey]
    simp [run_underlying Tryz.underlying3]
  unfold pK
  rw [Instr.checkKey]
  simp [run_underlying Tryz.underlying207, hI, part]
/-- What stands in the map: the places, in the order in which they were put, and what each bears. -/
def ents (l : List ((Int × Int) × Value)) (es : List MapEntry) : Prop := es.map (fun e => (e.key, e.val)) = l.map fun x => (pK x.1.1 x.1.2, x.2)
def look (a b : Int) (l : List ((Int × Int) × Value)) : Option Value := (l.find? fun x => decide (x.1 = (a, b))).map (·.2)
theorem run_findAsking (w : World) (a b : Int) : ∀ (l : List ((Int × Int) × Value)) (es : List MapEntry) (i : Nat), ents l es → ∃ r, (Instr.findAsking 207 (pK a b) es i).run Tryz.prog w = .ok r w ∧ r.map (·.2) = look a b l
  | [], es, i, h => by
    obtain rfl : es = [] := by simpa [ents] using h
    exact ⟨none, by simp [Instr.findAsking], rfl⟩
  | x :: l, [], i, h => by simp [ents] at h
  | x :: l, e :: es, i, h => by
    obtain ⟨⟨c, d⟩, v⟩ := x
    simp only [ents, List.map_cons, List.cons.injEq, Prod.mk.injEq] at h
    obtain ⟨⟨h1, h2⟩, h3⟩ := h
    by_cases hk : a = c ∧ b = d
    · obtain ⟨rfl, rfl⟩ := hk
      refine ⟨some (i, e.val), ?_, by simp [look, h2]⟩
      simp [Instr.findAsking, h1, run_eqPlace]
    · obtain ⟨r, hr, hl⟩ := run_findAsking w a b l es (i + 1) h3
      refine ⟨r, ?_, ?_⟩
      · have e1 : (a == c && b == d) = false := by
          by_cases p : a = c
          · have : ¬ b = d := fun q => hk ⟨p, q⟩
            simp [this]
          · simp [p]
        simp only [Instr.findAsking, h1]
        simp [run_eqPlace, e1, hr]
      · rw [hl]
        unfold look
        rw [List.find?_cons_of_neg]
        simp
        exact fun p q => hk ⟨p.symm, q.symm⟩
theorem run_findPlace (w : World) (a b : Int) (l : List ((Int × Int) × Value)) (es : List MapEntry) (h : ents l es) : ∃ r, (Instr.findKey 207 (pK a b) es).run Tryz.prog w = .ok r w ∧ r.map (·.2) = look a b l := by
  cases es with
  | nil =>
    obtain rfl : l = [] := by simpa [ents] using h.symm
    exact ⟨none, by simp [Instr.findKey, Instr.findNow, run_underlying Tryz.underlying207], rfl⟩
  | cons e es =>
    obtain ⟨r, h1, h2⟩ := run_findAsking w a b l (e :: es) 0 h
    refine ⟨r, ?_, h2⟩
    have hn : ∀ fs, Instr.findNow (.struct fs) (pK a b) (e :: es) 0 = none := fun fs => rfl
    simp [Instr.findKey, run_underlying Tryz.underlying207, hn, h1]
abbrev zeroWay : Value := .agg #[.int .i64 0, .bool false, .slice none 0 0, .int .i64 0, .float .f64 0, .int .i64 0, .int .i64 0, .int .i64 0, .bool false]
theorem info_way : (Tryz.prog.info? 209).map (fun i => (i.zero, i.size)) = some (some zeroWay, 9) := by kernel_rfl
theorem run_wayLook (w : World) (r : Nat) (clock : Nat) (a b : Int) (l : List ((Int × Int) × Value)) (es : Array MapEntry) (h : ents l es.toList) (hb : w.heap[r]? = some (.map es clock)) (ok : Bool) :
    (Instr.lookup 163 (.map (some r)) (pK a b) ok).run Tryz.prog w = .ok (if ok then .tuple #[(look a b l).getD zeroWay, .bool (look a b l).isSome] else (look a b l).getD zeroWay) w := by
  obtain ⟨q, h1, h2⟩ := run_findPlace w a b l es.toList h
  obtain ⟨i0, hi0, hii⟩ := Option.map_eq_some_iff.1 info_way
  obtain ⟨hz0, hz1⟩ : i0.zero = some zeroWay ∧ i0.size = 9 := by simpa using hii
  rw [← h2]
  cases q with
  | none => simp [Instr.lookup, run_underlying Tryz.underlying163, MapKept.run_getObj_map hb, run_checkPlace, h1, zeroValue, typeInfo, hi0, hz0, Result.andThen]
  | some p => simp [Instr.lookup, run_underlying Tryz.underlying163, MapKept.run_getObj_map hb, run_checkPlace, h1, Result.andThen]
theorem run_wayPut (w : World) (r : Nat) (clock : Nat) (a b : Int) (v : Value) (l : List ((Int × Int) × Value)) (es : Array MapEntry) (h : ents l es.toList) (hb : w.heap[r]? = some (.map es clock)) (hn : look a b l = none) :
    (Instr.mapUpdate 163 (.map (some r)) (pK a b) v).run Tryz.prog w = .ok () { w with heap := w.heap.setIfInBounds r (.map (es.push { key := pK a b, val := v, born := clock }) (clock + 1)) } := by
  obtain ⟨q, h1, h2⟩ := run_findPlace w a b l es.toList h
  rw [hn] at h2
  obtain rfl : q = none := by simpa using h2
  simp [Instr.mapUpdate, run_underlying Tryz.underlying163, MapKept.run_getObj_map hb, run_checkPlace, h1, MapKept.run_setObj_map _ hb, Result.andThen]
end Go.Proofs.YtkhllknahjmciaaGreat

/-! What the search asks: is a node there; what is a token worth where nothing is weighed. -/
namespace Go.Proofs.YtkhllknahjmciaaGreat
open Go.RowKit
set_option linter.unusedVariables false
set_option linter.unusedSimpArgs false

set_option maxRecDepth 100000 in
set_option maxHeartbeats 1000000 in
theorem findClosure (q0 : Nat) (v1 v2 : Value) (id x : Int) (w : World) (hb : w.cell? ⟨q0, 0, none⟩ = some (.int .i64 id)) :
    Calls Tryz.prog 94 #[.agg #[.int .i64 x, v1, v2], .pointer (some ⟨q0, 0, none⟩)] w fun e w' => e = .returned (.bool (x == id)) ∧ Ext w w' := by
  have hq : q0 < w.heap.size := lt_of_cell hb
  have hb2 := ((Chg.refl (S := fun _ => False) w).alloc (.cells #[.int .i64 x, v1, v2] 109)).cell (p := ⟨q0, 0, none⟩) hq (fun h => h)
  rw [hb] at hb2
  obtain ⟨y0, -, y1, -, y2, -⟩ := blk3_base (Blk.new w #[.int .i64 x, v1, v2] 109)
  go_enter Tryz.func94, Tryz.ntmps94
  go_wp2_with fail
  go_ret
  exact ⟨rfl, (Chg.refl w).alloc _⟩
set_option maxRecDepth 100000 in
set_option maxHeartbeats 1000000 in
theorem best1 (tb sb : Nat) (s : Int) (hs : s = 2 ∨ s = 3) (tok : Int) (w : World) (h1 : w.cell? ⟨tb, 0, none⟩ = some (.slice none 0 0)) (h2 : w.cell? ⟨sb, 0, none⟩ = some (.int .i64 s)) :
    Calls Tryz.prog 47 #[.int .i64 tok, .pointer (some ⟨tb, 0, none⟩), .pointer (some ⟨sb, 0, none⟩)] w (BvPost s true w) := by
  have HT := Lib.hid (fun W => Weigh0 s hs tok W)
  have hb := Blk.new w #[.int .i64 0, .bool false, .slice none 0 0, .int .i64 0, .float .f64 0] 38
  have hw1 : Ext w (w.alloc (.cells #[.int .i64 0, .bool false, .slice none 0 0, .int .i64 0, .float .f64 0] 38)) := (Chg.refl w).alloc _
  have k1 := hw1.cell (p := ⟨tb, 0, none⟩) (lt_of_cell h1) (fun h => h)
  have k2 := hw1.cell (p := ⟨sb, 0, none⟩) (lt_of_cell h2) (fun h => h)
  rw [h1] at k1
  rw [h2] at k2
  have HB := Lib.hid (And.intro hb hw1)
  have hsf := run_store_f
  clear hb hw1 hs h1 h2
  go_enter Tryz.func47, Tryz.ntmps47
  go_wp2_with fail
  refine (HT.out _).mono ?_
  rintro e w2 ⟨cs, rfl, ⟨i2', a2', c2', l2', rfl, hc, hok⟩, hx⟩
  unfold V5
  have hxa := hx.alloc (.cells #[.int .i64 s, .bool i2', .slice a2' 0 c2', .int .i64 l2', .float .f64 0] 38)
  obtain ⟨v0, -, v1, -, v2, -, v3, -, v4, -⟩ := blk5_base (Blk.new w2 #[.int .i64 s, .bool i2', .slice a2' 0 c2', .int .i64 l2', .float .f64 0] 38)
  have kB := Blk.chg (HB.out.1) hxa (fun h => h)
  obtain ⟨g0, f0, g1, f1, g2, f2, g3, f3, g4, f4⟩ := blk5_base kB
  obtain ⟨y3, z3, y4, z4, q0, q1, q2, q3, q4⟩ := blk5_facts kB (.int .i64 s) (.bool i2') (.slice a2' 0 c2') (.int .i64 l2') (.float .f64 0)
  have HX := Lib.hid (Chg.trans (HB.out.2) hxa)
  have HO := Lib.hid (And.intro hc hok)
  clear hx hxa kB hc hok
  go_wp2_with fail
  try simp only [Exit.inBlock, Exit.then]
  refine bodyPost_ret (by simp [results, Tryz.results47, go_sem, q0, q1, q2, q3, q4]; try rfl) rfl ?_
  exact ⟨V5 s i2' a2' c2' l2', rfl, ⟨_, _, _, _, rfl, HO.out.1, HO.out.2⟩, (((((HX.out.setCell _ _ (by simp <;> omega)).setCell _ _ (by simp <;> omega)).setCell _ _ (by simp <;> omega)).setCell _ _ (by simp <;> omega)).setCell _ _ (by simp <;> omega))⟩
end Go.Proofs.YtkhllknahjmciaaGreat

/-! Is a node there? -/
namespace Go.Proofs.YtkhllknahjmciaaGreat
open Go.RowKit
set_option linter.unusedVariables false
set_option linter.unusedSimpArgs false

set_option maxRecDepth 100000 in
set_option maxHeartbeats 1000000 in
theorem nodeIdx_any (ts : List Nd) (id : Int) (q0 : Nat) (w : World) (na : Option Addr) (nc : Nat) (h : NsC w ts na nc) (hq : w.cell? ⟨q0, 0, none⟩ = some (.int .i64 id)) :
    Calls Tryz.prog 145 #[.slice na ts.length nc, .func (.func 94) #[] #[.pointer (some ⟨q0, 0, none⟩)]] w fun e w' => e = .returned (.int .i64 (placeN ts id 0)) ∧ Ext w w' := by
  have hc : ts.length ≤ nc ∧ nc ≤ maxLen := by obtain ⟨css, h1, -⟩ := h; exact ⟨h1.1, h1.2.1⟩
  unfold maxLen at hc
  obtain ⟨R, hR⟩ : ∃ R, placeN ts id 0 = R := ⟨_, rfl⟩
  rw [hR]
  obtain ⟨m, hm⟩ : ∃ m, ts.length = m := ⟨_, rfl⟩
  rw [hm] at hc ⊢
  have HC := Lib.hid (fun v1 v2 x W (hW : Ext w W) => findClosure q0 v1 v2 id x W (by rw [hW.cell (p := ⟨q0, 0, none⟩) (lt_of_cell hq) (fun h => h)]; exact hq))
  have HH := Lib.hid (And.intro h (And.intro hR hm))
  have hm1 := hc.1
  have hm2 := hc.2
  clear h hR hm hc hq
  go_enter Tryz.func145, Tryz.ntmps145
  go_wp2_with fail
  go_loopg [8] m (fun g l8 wr => ∃ i : Nat, i ≤ m ∧ Ext w wr ∧ placeN (ts.drop i) id i = R ∧ l8 = .int .i64 i ∧ g = m - i)
  case atStart => exact ⟨0, Nat.zero_le _, Chg.refl _, HH.out.2.1, rfl, rfl⟩
  case round =>
    obtain ⟨i, hi, hx, hr, rfl, rfl⟩ := hrel
    by_cases hin : i < m
    · have hin' : (i : Int) < m := by omega
      obtain ⟨t, ht⟩ : ∃ t, ts[i]? = some t := ⟨_, List.getElem?_eq_getElem (by rw [HH.out.2.2]; exact hin)⟩
      obtain ⟨x, la, lc, pa, pc, rfl, c0, c1, c2, -⟩ := nd_at (HH.out.1.ext hx) ht
      rw [placeN_drop ht] at hr
      have HX := Lib.hid hx
      have HR := Lib.hid hr
      clear hx hr ht
      go_wp2_with fail
      refine (HC.out _ _ _ _ HX.out).mono ?_
      rintro e w2 ⟨rfl, hx2⟩
      have HX2 := Lib.hid (HX.out.trans hx2)
      clear hx2 c0 c1 c2
      by_cases he : t.id = id
      · have e1 : (t.id == id) = true := by simpa using he
        have hr := HR.out
        rw [if_pos he] at hr
        subst hr
        rw [e1]
        clear he e1
        go_wp2_with fail
        go_ret
        exact ⟨rfl, HX2.out⟩
      · have e1 : (t.id == id) = false := by simpa using he
        have hr := HR.out
        rw [if_neg he] at hr
        have HR2 := Lib.hid hr
        rw [e1]
        clear he hr e1
        go_wp2_with fail
        go_roundg (m - (i + 1))
        case measure => omega
        case rel => exact ⟨i + 1, by omega, HX2.out, HR2.out, rfl, rfl⟩
    · obtain rfl : i = m := by omega
      rw [List.drop_of_length_le (by rw [HH.out.2.2]; exact Nat.le_refl _), placeN] at hr
      subst hr
      have HX := Lib.hid hx
      clear hx
      go_wp2_with fail
      go_ret
      exact ⟨rfl, HX.out⟩
end Go.Proofs.YtkhllknahjmciaaGreat

/-! Is a node there (yes or no); is a number among others. -/
namespace Go.Proofs.YtkhllknahjmciaaGreat
open Go.RowKit
set_option linter.unusedVariables false
set_option linter.unusedSimpArgs false

set_option maxRecDepth 100000 in
set_option maxHeartbeats 1000000 in
theorem nodeHas_any (ts : List Nd) (id : Int) (q0 : Nat) (w : World) (na : Option Addr) (nc : Nat) (h : NsC w ts na nc) (hq : w.cell? ⟨q0, 0, none⟩ = some (.int .i64 id)) (b : Bool) (hb : decide (0 ≤ placeN ts id 0) = b) :
    Calls Tryz.prog 93 #[.slice na ts.length nc, .func (.func 94) #[] #[.pointer (some ⟨q0, 0, none⟩)]] w fun e w' => e = .returned (.bool b) ∧ Ext w w' := by
  have HI := Lib.hid (nodeIdx_any ts id q0 w na nc h hq)
  obtain ⟨R, hR⟩ : ∃ R, placeN ts id 0 = R := ⟨_, rfl⟩
  rw [hR] at HI hb
  clear h hq hR
  go_enter Tryz.func93, Tryz.ntmps93
  go_wp2_with fail
  refine HI.out.mono ?_
  rintro e w2 ⟨rfl, hx⟩
  have HX := Lib.hid hx
  have HBb := Lib.hid hb
  clear hx hb
  go_wp2_with fail
  go_ret
  exact ⟨congrArg (fun z => Ending.returned (.bool z)) HBb.out, HX.out⟩
def idxI : List Int → Int → Nat → Int
  | [], _, _ => -1
  | t :: ts, v, i => if v = t then i else idxI ts v (i + 1)
theorem idxI_drop {ts : List Int} {i : Nat} {t : Int} (h : ts[i]? = some t) (v : Int) : idxI (ts.drop i) v i = if v = t then (i : Int) else idxI (ts.drop (i + 1)) v (i + 1) := by
  obtain ⟨hi, rfl⟩ := List.getElem?_eq_some_iff.1 h
  rw [List.drop_eq_getElem_cons hi, idxI]
theorem idxI_mem (v : Int) : ∀ (ts : List Int) (i : Nat), 0 ≤ idxI ts v i ↔ v ∈ ts
  | [], i => by simp [idxI]
  | t :: ts, i => by
    unfold idxI
    by_cases h : v = t
    · rw [if_pos h]
      simp [h]
    · rw [if_neg h, idxI_mem v ts (i + 1), List.mem_cons]
      simp [h]
set_option maxRecDepth 100000 in
set_option maxHeartbeats 1000000 in
theorem index_any (ts : List Int) (v : Int) (w : World) (a : Option Addr) (cap : Nat) (h : Cells w a ts.length cap (ts.map (.int .i64 ·))) :
    Calls Tryz.prog 119 #[.slice a ts.length cap, .int .i64 v] w fun e w' => e = .returned (.int .i64 (idxI ts v 0)) ∧ w' = w := by
  obtain ⟨R, hR⟩ : ∃ R, idxI ts v 0 = R := ⟨_, rfl⟩
  rw [hR]
  obtain ⟨m, hm⟩ : ∃ m, ts.length = m := ⟨_, rfl⟩
  rw [hm] at h ⊢
  have hm1 := h.1
  have hm2 := h.2.1
  unfold maxLen at hm2
  have HH := Lib.hid (And.intro h (And.intro hR hm))
  clear h hR hm
  go_enter Tryz.func119, Tryz.ntmps119
  go_wp2_with fail
  go_loopg [8] m (fun g l8 wr => ∃ i : Nat, i ≤ m ∧ wr = w ∧ idxI (ts.drop i) v i = R ∧ l8 = .int .i64 i ∧ g = m - i)
  case atStart => exact ⟨0, Nat.zero_le _, rfl, HH.out.2.1, rfl, rfl⟩
  case round =>
    obtain ⟨i, hi, rfl, hr, rfl, rfl⟩ := hrel
    by_cases hin : i < m
    · have hin' : (i : Int) < m := by omega
      obtain ⟨t, ht⟩ : ∃ t, ts[i]? = some t := ⟨_, List.getElem?_eq_getElem (by rw [HH.out.2.2]; exact hin)⟩
      obtain ⟨x, rfl, c0⟩ := HH.out.1.2.2 i (.int .i64 t) (by rw [List.getElem?_map, ht]; rfl)
      rw [idxI_drop ht] at hr
      by_cases he : v = t
      · have e1 : (v == t) = true := by simpa using he
        rw [if_pos he] at hr
        subst hr
        clear he ht
        go_wp2_with fail
        go_ret
        exact ⟨rfl, rfl⟩
      · have e1 : (v == t) = false := by simpa using he
        rw [if_neg he] at hr
        have HR := Lib.hid hr
        clear he ht hr
        go_wp2_with fail
        go_roundg (m - (i + 1))
        case measure => omega
        case rel => exact ⟨i + 1, by omega, rfl, HR.out, rfl, rfl⟩
    · obtain rfl : i = m := by omega
      rw [List.drop_of_length_le (by rw [HH.out.2.2]; exact Nat.le_refl _), idxI] at hr
      subst hr
      go_wp2_with fail
      go_ret
      exact ⟨rfl, rfl⟩
set_option maxRecDepth 100000 in
set_option maxHeartbeats 1000000 in
theorem contains_any (ts : List Int) (v : Int) (w : World) (a : Option Addr) (cap : Nat) (h : Cells w a ts.length cap (ts.map (.int .i64 ·))) (b : Bool) (hb : decide (v ∈ ts) = b) :
    Calls Tryz.prog 72 #[.slice a ts.length cap, .int .i64 v] w fun e w' => e = .returned (.bool b) ∧ w' = w := by
  have HI := Lib.hid (index_any ts v w a cap h)
  have hb2 : decide (0 ≤ idxI ts v 0) = b := by rw [← hb]; exact decide_eq_decide.2 (idxI_mem v ts 0)
  generalize idxI ts v 0 = R at HI hb2
  have HBb := Lib.hid hb2
  clear h hb hb2
  go_enter Tryz.func72, Tryz.ntmps72
  go_wp2_with fail
  refine HI.out.mono ?_
  rintro e w9 ⟨rfl, h9⟩
  subst w9
  go_wp2_with fail
  go_ret
  exact ⟨congrArg (fun z => Ending.returned (.bool z)) HBb.out, rfl⟩
end Go.Proofs.YtkhllknahjmciaaGreat

/-! What a token is worth where some edges alone may be used. -/
namespace Go.Proofs.YtkhllknahjmciaaGreat
open Go.RowKit
set_option linter.unusedVariables false
set_option linter.unusedSimpArgs false

set_option maxRecDepth 100000 in
set_option maxHeartbeats 1000000 in
theorem some1 (ts : List Int) (tb : Nat) (tok : Int) (w : World) (a : Option Addr) (cap : Nat) (h : Cells w a ts.length cap (ts.map (.int .i64 ·))) (h1 : w.cell? ⟨tb, 0, none⟩ = some (.slice a ts.length cap)) (b : Bool) (hb : decide (tok ∈ ts) = b) :
    Calls Tryz.prog 71 #[.int .i64 tok, .pointer (some ⟨tb, 0, none⟩)] w (BvPost 2 b w) := by
  have hw1 : Ext w (w.alloc (.cells #[.int .i64 0, .bool false, .slice none 0 0, .int .i64 0, .float .f64 0] 38)) := (Chg.refl w).alloc _
  have HC := Lib.hid (contains_any ts tok _ a cap (h.ext hw1) b hb)
  have k1 := hw1.cell (p := ⟨tb, 0, none⟩) (lt_of_cell h1) (fun h => h)
  rw [h1] at k1
  have hb2 := Blk.new w #[.int .i64 0, .bool false, .slice none 0 0, .int .i64 0, .float .f64 0] 38
  obtain ⟨W0, hW0⟩ : ∃ W0, w.alloc (.cells #[.int .i64 0, .bool false, .slice none 0 0, .int .i64 0, .float .f64 0] 38) = W0 := ⟨_, rfl⟩
  rw [hW0] at HC hb2 hw1
  have HW := Lib.hid hW0
  have HX := Lib.hid hw1
  have hsf := run_store_f
  clear h h1 hw1 hW0 hb
  go_enter Tryz.func71, Tryz.ntmps71
  go_wp2_with fail
  rw [HW.out]
  refine HC.out.mono ?_
  rintro e w9 ⟨rfl, h9⟩
  subst w9
  cases b
  · obtain ⟨g0, f0, g1, f1, g2, f2, g3, f3, g4, f4⟩ := blk5_base hb2
    obtain ⟨y3, z3, y4, z4, q0, q1, q2, q3, q4⟩ := blk5_facts hb2 (.int .i64 2) (.bool false) (.slice none 0 0) (.int .i64 0) (.float .f64 0)
    go_wp2_with fail
    try simp only [Exit.inBlock, Exit.then]
    refine bodyPost_ret (by simp [results, Tryz.results71, go_sem, q0, q1, q2, q3, q4]; try rfl) rfl ?_
    exact ⟨V5 2 false none 0 0, rfl, ⟨_, _, _, _, rfl, by unfold maxLen; omega, .inl ⟨rfl, rfl, rfl⟩⟩, (((((HX.out.setCell _ _ (by simp)).setCell _ _ (by simp)).setCell _ _ (by simp)).setCell _ _ (by simp)).setCell _ _ (by simp))⟩
  · obtain ⟨g0, f0, g1, f1, g2, f2, g3, f3, g4, f4⟩ := blk5_base hb2
    obtain ⟨y3, z3, y4, z4, q0, q1, q2, q3, q4⟩ := blk5_facts hb2 (.int .i64 2) (.bool false) (.slice none 0 0) (.int .i64 1) (.float .f64 0)
    go_wp2_with fail
    try simp only [Exit.inBlock, Exit.then]
    refine bodyPost_ret (by simp [results, Tryz.results71, go_sem, q0, q1, q2, q3, q4]; try rfl) rfl ?_
    exact ⟨V5 2 false none 0 1, rfl, ⟨_, _, _, _, rfl, by unfold maxLen; omega, .inl ⟨rfl, rfl, rfl⟩⟩, (((((HX.out.setCell _ _ (by simp)).setCell _ _ (by simp)).setCell _ _ (by simp)).setCell _ _ (by simp)).setCell _ _ (by simp))⟩
end Go.Proofs.YtkhllknahjmciaaGreat

/-! What a machine's moves do is what its path says, over any things that its letters lead between. -/
namespace Go.Proofs.YtkhllknahjmciaaGreat
open Go.RowKit
set_option linter.unusedVariables false
set_option linter.unusedSimpArgs false

/-- Any number of steps. -/
inductive Rt {α : Type} (R : α → α → Prop) : α → α → Prop where
  | refl (a : α) : Rt R a a
  | head {a b c : α} : R a b → Rt R b c → Rt R a c
theorem Rt.trans {α : Type} {R : α → α → Prop} {a b c : α} (h : Rt R a b) (k : Rt R b c) : Rt R a c := by
  induction h with
  | refl => exact k
  | head h1 _ ih => exact .head h1 (ih k)
theorem Rt.one {α : Type} {R : α → α → Prop} {a b : α} (h : R a b) : Rt R a b := .head h (.refl b)
theorem Rt.mono {α : Type} {R T : α → α → Prop} (hi : ∀ a b, R a b → T a b) {a b : α} (h : Rt R a b) : Rt T a b := by
  induction h with
  | refl => exact .refl _
  | head h1 _ ih => exact .head (hi _ _ h1) ih
/-- What a path leads between. -/
def den {α : Type} (E : ByteArray → Bool → α → α → Prop) : Pl → α → α → Prop
  | .eps => fun u v => u = v
  | .fwd l => E l false
  | .back l => E l true
  | .seq p q => fun u v => ∃ m, den E p u m ∧ den E q m v
  | .alt p q => fun u v => den E p u v ∨ den E q u v
  | .star p => Rt (den E p)
/-- One move of a machine. -/
def Sp {α : Type} (E : ByteArray → Bool → α → α → Prop) (ms : List Mv) (x y : α × Int) : Prop :=
  ∃ m ∈ ms, x.2 = m.f ∧ y.2 = m.t ∧ ((m.eps = true ∧ x.1 = y.1) ∨ (m.eps = false ∧ E m.l m.back x.1 y.1))
theorem Sp.mono {α : Type} {E : ByteArray → Bool → α → α → Prop} {ms ns : List Mv} (h : ∀ m ∈ ms, m ∈ ns) (x y : α × Int) (k : Sp E ms x y) : Sp E ns x y := by
  obtain ⟨m, hm, r⟩ := k
  exact ⟨m, h m hm, r⟩
theorem Sp.e {α : Type} {E : ByteArray → Bool → α → α → Prop} {ms : List Mv} {f t : Int} (h : Mv.e f t ∈ ms) (u : α) : Sp E ms (u, f) (u, t) := ⟨_, h, rfl, rfl, .inl ⟨rfl, rfl⟩⟩
theorem den_walk {α : Type} {E : ByteArray → Bool → α → α → Prop} (p : Pl) : ∀ (n : Int) (u v : α), den E p u v → Rt (Sp E (partP p n).ms) (u, (partP p n).s) (v, (partP p n).a) := by
  induction p with
  | eps =>
    intro n u v h
    cases h
    exact .one ⟨_, List.mem_cons_self .., rfl, rfl, .inl ⟨rfl, rfl⟩⟩
  | fwd l =>
    intro n u v h
    exact .one ⟨_, List.mem_cons_self .., rfl, rfl, .inr ⟨rfl, h⟩⟩
  | back l =>
    intro n u v h
    exact .one ⟨_, List.mem_cons_self .., rfl, rfl, .inr ⟨rfl, h⟩⟩
  | seq p q h1 h2 =>
    rintro n u v ⟨m, a1, a2⟩
    have b1 := h1 n _ _ a1
    have b2 := h2 (partP p n).n _ _ a2
    simp only [partP]
    refine (b1.mono (Sp.mono ?_)).trans (.head (Sp.e (f := (partP p n).a) (t := (partP q (partP p n).n).s) ?_ m) (b2.mono (Sp.mono ?_)))
    · intro x hx; simp [hx]
    · simp
    · intro x hx; simp [hx]
  | alt p q h1 h2 =>
    rintro n u v (a | a)
    · have b := h1 (n + 1) _ _ a
      simp only [partP]
      refine .head (Sp.e (f := n) (t := (partP p (n + 1)).s) ?_ u) ((b.mono (Sp.mono ?_)).trans (.one (Sp.e ?_ v)))
      · simp
      · intro x hx; simp [hx]
      · simp
    · have b := h2 (partP p (n + 1)).n _ _ a
      simp only [partP]
      refine .head (Sp.e (f := n) (t := (partP q (partP p (n + 1)).n).s) ?_ u) ((b.mono (Sp.mono ?_)).trans (.one (Sp.e ?_ v)))
      · simp
      · intro x hx; simp [hx]
      · simp
  | star p h1 =>
    intro n u v h
    simp only [partP]
    simp only [den] at h
    have key : ∀ u v, Rt (den E p) u v → u = v ∨ Rt (Sp E ((partP p (n + 1)).ms ++ [Mv.e n (partP p (n + 1)).s, Mv.e n (partP p (n + 1)).n, Mv.e (partP p (n + 1)).a (partP p (n + 1)).s, Mv.e (partP p (n + 1)).a (partP p (n + 1)).n])) (u, (partP p (n + 1)).s) (v, (partP p (n + 1)).a) := by
      intro u v h
      induction h with
      | refl => exact .inl rfl
      | head a1 a2 ih =>
        have b := (h1 (n + 1) _ _ a1).mono (T := Sp E ((partP p (n + 1)).ms ++ [Mv.e n (partP p (n + 1)).s, Mv.e n (partP p (n + 1)).n, Mv.e (partP p (n + 1)).a (partP p (n + 1)).s, Mv.e (partP p (n + 1)).a (partP p (n + 1)).n])) (Sp.mono (fun x hx => by simp [hx]))
        rcases ih with rfl | ih
        · exact .inr b
        · exact .inr (b.trans (.head (Sp.e (by simp) _) ih))
    rcases key u v h with rfl | k
    · exact .one (Sp.e (by simp) u)
    · exact .head (Sp.e (by simp) u) (k.trans (.one (Sp.e (by simp) v)))
theorem partP_in (p : Pl) : ∀ n, ∀ m ∈ (partP p n).ms, n ≤ m.f ∧ m.f < (partP p n).n ∧ n ≤ m.t ∧ m.t < (partP p n).n := by
  induction p with
  | eps => intro n m hm; simp only [partP, List.mem_singleton] at hm ⊢; subst hm; simp; omega
  | fwd l => intro n m hm; simp only [partP, List.mem_singleton] at hm ⊢; subst hm; simp; omega
  | back l => intro n m hm; simp only [partP, List.mem_singleton] at hm ⊢; subst hm; simp; omega
  | seq p q h1 h2 =>
    intro n m hm
    obtain ⟨i1, -, -, i4, i5, i6, i7⟩ := partP_n p n
    obtain ⟨j1, -, -, j4, j5, j6, j7⟩ := partP_n q (partP p n).n
    simp only [partP, List.mem_append, List.mem_singleton] at hm ⊢
    rcases hm with (hm | hm) | rfl
    · have := h1 n m hm; omega
    · have := h2 _ m hm; omega
    · simp only [Mv.e]; omega
  | alt p q h1 h2 =>
    intro n m hm
    obtain ⟨i1, -, -, i4, i5, i6, i7⟩ := partP_n p (n + 1)
    obtain ⟨j1, -, -, j4, j5, j6, j7⟩ := partP_n q (partP p (n + 1)).n
    simp only [partP, List.mem_append, List.mem_cons, List.not_mem_nil, or_false] at hm ⊢
    rcases hm with (hm | hm) | rfl | rfl | rfl | rfl
    · have := h1 _ m hm; omega
    · have := h2 _ m hm; omega
    all_goals (simp only [Mv.e]; omega)
  | star p h1 =>
    intro n m hm
    obtain ⟨i1, -, -, i4, i5, i6, i7⟩ := partP_n p (n + 1)
    simp only [partP, List.mem_append, List.mem_cons, List.not_mem_nil, or_false] at hm ⊢
    rcases hm with hm | rfl | rfl | rfl | rfl
    · have := h1 _ m hm; omega
    all_goals (simp only [Mv.e]; omega)
/-- What a state is good for, if from the accepting one K is. -/
structure Good {α : Type} (E : ByteArray → Bool → α → α → Prop) (x : Pt) (D : α → α → Prop) (K : α → Prop) (W : Int → α → Prop) : Prop where
  step : ∀ y z, Sp E x.ms y z → W z.2 z.1 → W y.2 y.1
  acc : ∀ v, K v → W x.a v
  start : ∀ u, W x.s u → ∃ v, D u v ∧ K v
theorem two_W {α : Type} (c : Int) (W1 W2 : Int → α → Prop) : ∃ W : Int → α → Prop, (∀ t u, t < c → (W t u ↔ W1 t u)) ∧ ∀ t u, c ≤ t → (W t u ↔ W2 t u) :=
  ⟨fun t u => (t < c ∧ W1 t u) ∨ (c ≤ t ∧ W2 t u), fun t u h => ⟨fun k => k.elim (·.2) (fun k => by omega), fun k => .inl ⟨h, k⟩⟩, fun t u h => ⟨fun k => k.elim (fun k => by omega) (·.2), fun k => .inr ⟨h, k⟩⟩⟩
theorem put_W {α : Type} (c : Int) (A : α → Prop) (W1 : Int → α → Prop) : ∃ W : Int → α → Prop, (∀ u, W c u ↔ A u) ∧ ∀ t u, t ≠ c → (W t u ↔ W1 t u) :=
  ⟨fun t u => (t = c ∧ A u) ∨ (t ≠ c ∧ W1 t u), fun u => ⟨fun k => k.elim (·.2) (fun k => absurd rfl k.1), fun k => .inl ⟨rfl, k⟩⟩, fun t u h => ⟨fun k => k.elim (fun k => absurd k.1 h) (·.2), fun k => .inr ⟨h, k⟩⟩⟩
theorem good_leaf {α : Type} {E : ByteArray → Bool → α → α → Prop} (n : Int) (l : ByteArray) (b : Bool) (K : α → Prop) : ∃ W, Good E ⟨n, n + 1, n + 2, [⟨n, n + 1, false, l, b⟩]⟩ (E l b) K W := by
  obtain ⟨W, h1, h2⟩ := put_W n (fun u => ∃ v, E l b u v ∧ K v) (fun _ u => K u)
  refine ⟨W, ⟨?_, fun v h => (h2 (n + 1) v (by omega)).2 h, fun u h => (h1 u).1 h⟩⟩
  rintro ⟨y, s⟩ ⟨z, t⟩ ⟨m, hm, e1, e2, h⟩ hk
  rw [List.mem_singleton] at hm
  subst hm
  simp only at e1 e2 hk h ⊢
  subst e1 e2
  rcases h with ⟨h, -⟩ | ⟨-, h⟩
  · exact absurd h (by simp)
  · exact (h1 y).2 ⟨z, h, (h2 (s + 1) z (by omega)).1 hk⟩
theorem e_same {α : Type} {E : ByteArray → Bool → α → α → Prop} {f t : Int} {y z : α} (h : (Mv.e f t).eps = true ∧ y = z ∨ (Mv.e f t).eps = false ∧ E (Mv.e f t).l (Mv.e f t).back y z) : y = z := by
  rcases h with ⟨-, h⟩ | ⟨h, -⟩
  · exact h
  · exact absurd h (by simp [Mv.e])
theorem den_good {α : Type} {E : ByteArray → Bool → α → α → Prop} (p : Pl) : ∀ (n : Int) (K : α → Prop), ∃ W, Good E (partP p n) (den E p) K W := by
  induction p with
  | eps =>
    intro n K
    refine ⟨fun t u => K u, ⟨?_, fun v h => h, fun u h => ⟨u, rfl, h⟩⟩⟩
    rintro ⟨y, s⟩ ⟨z, t⟩ ⟨m, hm, -, -, h⟩ hk
    simp only [partP, List.mem_singleton] at hm
    subst hm
    rcases h with ⟨-, h⟩ | ⟨h, -⟩
    · simp only at h hk ⊢; rw [h]; exact hk
    · simp at h
  | fwd l => exact fun n K => good_leaf n l false K
  | back l => exact fun n K => good_leaf n l true K
  | seq p q h1 h2 =>
    intro n K
    obtain ⟨W2, g2⟩ := h2 (partP p n).n K
    obtain ⟨W1, g1⟩ := h1 n (fun u => ∃ v, den E q u v ∧ K v)
    obtain ⟨i1, -, -, i4, i5, i6, i7⟩ := partP_n p n
    obtain ⟨j1, -, -, j4, j5, j6, j7⟩ := partP_n q (partP p n).n
    obtain ⟨W, k1, k2⟩ := two_W (partP p n).n W1 W2
    refine ⟨W, ⟨?_, fun v h => (k2 _ _ j6).2 (g2.acc v h), fun u h => ?_⟩⟩
    · rintro ⟨y, s⟩ ⟨z, t⟩ ⟨m, hm, e1, e2, h⟩ hk
      simp only at e1 e2
      subst e1 e2
      simp only [partP, List.mem_append, List.mem_singleton] at hm
      rcases hm with (hm | hm) | rfl
      · obtain ⟨r1, r2, r3, r4⟩ := partP_in p n m hm
        exact (k1 m.f y r2).2 (g1.step (y, m.f) (z, m.t) ⟨m, hm, rfl, rfl, h⟩ ((k1 m.t z r4).1 hk))
      · obtain ⟨r1, r2, r3, r4⟩ := partP_in q _ m hm
        exact (k2 m.f y r1).2 (g2.step (y, m.f) (z, m.t) ⟨m, hm, rfl, rfl, h⟩ ((k2 m.t z r3).1 hk))
      · obtain rfl : y = z := e_same h
        exact (k1 (partP p n).a y i7).2 (g1.acc _ (g2.start _ ((k2 (partP q (partP p n).n).s y j4).1 hk)))
    · obtain ⟨m, a1, v, a2, a3⟩ := g1.start u ((k1 _ u i5).1 h)
      exact ⟨v, ⟨m, a1, a2⟩, a3⟩
  | alt p q h1 h2 =>
    intro n K
    obtain ⟨W1, g1⟩ := h1 (n + 1) K
    obtain ⟨W2, g2⟩ := h2 (partP p (n + 1)).n K
    obtain ⟨i1, -, -, i4, i5, i6, i7⟩ := partP_n p (n + 1)
    obtain ⟨j1, -, -, j4, j5, j6, j7⟩ := partP_n q (partP p (n + 1)).n
    obtain ⟨W3, k1, k2⟩ := two_W (partP p (n + 1)).n W1 W2
    obtain ⟨W4, k3, k4⟩ := put_W (partP q (partP p (n + 1)).n).n K W3
    obtain ⟨W, k5, k6⟩ := put_W n (fun u => ∃ v, (den E p u v ∨ den E q u v) ∧ K v) W4
    have kp : ∀ t u, n + 1 ≤ t → t < (partP p (n + 1)).n → (W t u ↔ W1 t u) := fun t u a b => (k6 t u (by omega)).trans ((k4 t u (by omega)).trans (k1 t u b))
    have kq : ∀ t u, (partP p (n + 1)).n ≤ t → t < (partP q (partP p (n + 1)).n).n → (W t u ↔ W2 t u) := fun t u a b => (k6 t u (by omega)).trans ((k4 t u (by omega)).trans (k2 t u a))
    have ka : ∀ u, W (partP q (partP p (n + 1)).n).n u ↔ K u := fun u => (k6 _ u (by omega)).trans (k3 u)
    refine ⟨W, ⟨?_, fun v h => (ka v).2 h, fun u h => (k5 u).1 h⟩⟩
    rintro ⟨y, s⟩ ⟨z, t⟩ ⟨m, hm, e1, e2, h⟩ hk
    simp only at e1 e2
    subst e1 e2
    simp only [partP, List.mem_append, List.mem_cons, List.not_mem_nil, or_false] at hm
    rcases hm with (hm | hm) | rfl | rfl | rfl | rfl
    · obtain ⟨r1, r2, r3, r4⟩ := partP_in p (n + 1) m hm
      exact (kp m.f y r1 r2).2 (g1.step (y, m.f) (z, m.t) ⟨m, hm, rfl, rfl, h⟩ ((kp m.t z r3 r4).1 hk))
    · obtain ⟨r1, r2, r3, r4⟩ := partP_in q _ m hm
      exact (kq m.f y r1 r2).2 (g2.step (y, m.f) (z, m.t) ⟨m, hm, rfl, rfl, h⟩ ((kq m.t z r3 r4).1 hk))
    · obtain rfl : y = z := e_same h
      obtain ⟨v, a1, a2⟩ := g1.start _ ((kp (partP p (n + 1)).s y i4 i5).1 hk)
      exact (k5 y).2 ⟨v, .inl a1, a2⟩
    · obtain rfl : y = z := e_same h
      obtain ⟨v, a1, a2⟩ := g2.start _ ((kq (partP q (partP p (n + 1)).n).s y j4 j5).1 hk)
      exact (k5 y).2 ⟨v, .inr a1, a2⟩
    · obtain rfl : y = z := e_same h
      exact (kp (partP p (n + 1)).a y i6 i7).2 (g1.acc _ ((ka y).1 hk))
    · obtain rfl : y = z := e_same h
      exact (kq (partP q (partP p (n + 1)).n).a y j6 j7).2 (g2.acc _ ((ka y).1 hk))
  | star p h1 =>
    intro n K
    obtain ⟨W1, g1⟩ := h1 (n + 1) (fun u => ∃ v, Rt (den E p) u v ∧ K v)
    obtain ⟨i1, -, -, i4, i5, i6, i7⟩ := partP_n p (n + 1)
    have hs : ∀ u, W1 (partP p (n + 1)).s u → ∃ v, Rt (den E p) u v ∧ K v := fun u h => by
      obtain ⟨m, a1, v, a2, a3⟩ := g1.start u h
      exact ⟨v, .head a1 a2, a3⟩
    obtain ⟨W4, k3, k4⟩ := put_W (partP p (n + 1)).n K W1
    obtain ⟨W, k5, k6⟩ := put_W n (fun u => ∃ v, Rt (den E p) u v ∧ K v) W4
    have kp : ∀ t u, n + 1 ≤ t → t < (partP p (n + 1)).n → (W t u ↔ W1 t u) := fun t u a b => (k6 t u (by omega)).trans (k4 t u (by omega))
    have ka : ∀ u, W (partP p (n + 1)).n u ↔ K u := fun u => (k6 _ u (by omega)).trans (k3 u)
    refine ⟨W, ⟨?_, fun v h => (ka v).2 h, fun u h => (k5 u).1 h⟩⟩
    rintro ⟨y, s⟩ ⟨z, t⟩ ⟨m, hm, e1, e2, h⟩ hk
    simp only at e1 e2
    subst e1 e2
    simp only [partP, List.mem_append, List.mem_cons, List.not_mem_nil, or_false] at hm
    rcases hm with hm | rfl | rfl | rfl | rfl
    · obtain ⟨r1, r2, r3, r4⟩ := partP_in p (n + 1) m hm
      exact (kp m.f y r1 r2).2 (g1.step (y, m.f) (z, m.t) ⟨m, hm, rfl, rfl, h⟩ ((kp m.t z r3 r4).1 hk))
    · obtain rfl : y = z := e_same h
      exact (k5 y).2 (hs _ ((kp (partP p (n + 1)).s y i4 i5).1 hk))
    · obtain rfl : y = z := e_same h
      exact (k5 y).2 ⟨_, .refl _, (ka y).1 hk⟩
    · obtain rfl : y = z := e_same h
      exact (kp (partP p (n + 1)).a y i6 i7).2 (g1.acc _ (hs _ ((kp (partP p (n + 1)).s y i4 i5).1 hk)))
    · obtain rfl : y = z := e_same h
      exact (kp (partP p (n + 1)).a y i6 i7).2 (g1.acc _ ⟨_, .refl _, (ka y).1 hk⟩)
theorem walk_den {α : Type} {E : ByteArray → Bool → α → α → Prop} (p : Pl) (n : Int) (u v : α) (h : Rt (Sp E (partP p n).ms) (u, (partP p n).s) (v, (partP p n).a)) : den E p u v := by
  obtain ⟨W, g⟩ := den_good (E := E) p n (fun x => x = v)
  have key : ∀ y z : α × Int, Rt (Sp E (partP p n).ms) y z → W z.2 z.1 → W y.2 y.1 := by
    intro y z h
    induction h with
    | refl => exact id
    | head h1 _ ih => exact fun hw => g.step _ _ h1 (ih hw)
  obtain ⟨v', a1, rfl⟩ := g.start u (key _ _ h (g.acc v rfl))
  exact a1
/-- A path's machine leads from start to accept just where the path leads. -/
theorem mach_den {α : Type} {E : ByteArray → Bool → α → α → Prop} (p : Pl) (n : Int) (u v : α) : Rt (Sp E (partP p n).ms) (u, (partP p n).s) (v, (partP p n).a) ↔ den E p u v := ⟨walk_den p n u v, den_walk p n u v⟩
/-- May a path's word be empty? -/
def null : Pl → Bool
  | .eps => true
  | .fwd _ => false
  | .back _ => false
  | .seq p q => null p && null q
  | .alt p q => null p || null q
  | .star _ => true
theorem den_null {α : Type} (p : Pl) : ∀ u v : α, den (fun _ _ _ _ => False) p u v ↔ (u = v ∧ null p = true) := by
  induction p with
  | eps => intro u v; simp [den, null]
  | fwd l => intro u v; simp [den, null]
  | back l => intro u v; simp [den, null]
  | seq p q h1 h2 =>
    intro u v
    simp only [den, null, Bool.and_eq_true]
    constructor
    · rintro ⟨m, a, b⟩
      obtain ⟨rfl, x⟩ := (h1 _ _).1 a
      obtain ⟨rfl, y⟩ := (h2 _ _).1 b
      exact ⟨rfl, x, y⟩
    · rintro ⟨rfl, x, y⟩
      exact ⟨u, (h1 _ _).2 ⟨rfl, x⟩, (h2 _ _).2 ⟨rfl, y⟩⟩
  | alt p q h1 h2 =>
    intro u v
    simp only [den, null, Bool.or_eq_true, h1, h2]
    constructor
    · rintro (⟨a, b⟩ | ⟨a, b⟩)
      · exact ⟨a, .inl b⟩
      · exact ⟨a, .inr b⟩
    · rintro ⟨a, b | b⟩
      · exact .inl ⟨a, b⟩
      · exact .inr ⟨a, b⟩
  | star p h1 =>
    intro u v
    simp only [den, null, and_true]
    constructor
    · intro h
      induction h with
      | refl => rfl
      | head a _ ih => exact ((h1 _ _).1 a).1.trans ih
    · rintro rfl
      exact .refl _
end Go.Proofs.YtkhllknahjmciaaGreat

/-! May a path's word be empty: of the path itself and of the plain one. -/
namespace Go.Proofs.YtkhllknahjmciaaGreat
open Go.RowKit
set_option linter.unusedVariables false
set_option linter.unusedSimpArgs false

mutual
def rnull : Tr → Bool
  | .node k _ kids mn _ =>
    if k = 1 ∨ k = 6 ∨ k = 8 then true
    else if k = 4 then rnullAll kids
    else if k = 5 ∨ k = 7 then rnullAny kids
    else if k = 9 then decide (mn = 0) || rnullAny kids
    else false
def rnullAll : List Tr → Bool
  | [] => true
  | t :: ts => rnull t && rnullAll ts
def rnullAny : List Tr → Bool
  | [] => false
  | t :: ts => rnull t || rnullAny ts
end
theorem rnullAll_drop {kids : List Tr} {i : Nat} {t : Tr} (h : kids[i]? = some t) : rnullAll (kids.drop i) = (rnull t && rnullAll (kids.drop (i + 1))) := by
  obtain ⟨hi, rfl⟩ := List.getElem?_eq_some_iff.1 h
  rw [List.drop_eq_getElem_cons hi, rnullAll]
theorem rnullAny_drop {kids : List Tr} {i : Nat} {t : Tr} (h : kids[i]? = some t) : rnullAny (kids.drop i) = (rnull t || rnullAny (kids.drop (i + 1))) := by
  obtain ⟨hi, rfl⟩ := List.getElem?_eq_some_iff.1 h
  rw [List.drop_eq_getElem_cons hi, rnullAny]
theorem null_row4 : ∀ ts : List Pl, null (Pl.row 4 ts) = ts.all null
  | [] => rfl
  | [t] => by simp [Pl.row]
  | t :: u :: ts => by
    rw [Pl.row, List.all_cons, ← null_row4 (u :: ts)]
    simp [Pl.two, null]
theorem null_row5 : ∀ ts : List Pl, ts ≠ [] → null (Pl.row 5 ts) = ts.any null
  | [], h => absurd rfl h
  | [t], _ => by simp [Pl.row]
  | t :: u :: ts, _ => by
    rw [Pl.row, List.any_cons, ← null_row5 (u :: ts) (by simp)]
    simp [Pl.two, null]
theorem null_maybe (p : Pl) : null p.maybe = true := by simp [Pl.maybe, null]
theorem null_tail (p : Pl) : ∀ n, null (p.tail n) = true
  | 0 => null_maybe p
  | n + 1 => null_maybe _
theorem all_rep (q : Pl) (n : Nat) : (List.replicate n q).all null = (decide (n = 0) || null q) := by
  cases n with
  | zero => simp
  | succ n =>
    rw [List.all_replicate]
    simp
theorem null_rep (q : Pl) (n : Nat) (most : Int) : null (q.rep n most) = (decide (n = 0) || null q) := by
  unfold Pl.rep
  rw [null_row4, List.all_append, all_rep]
  have e : (if most = -1 then [Pl.star q] else if (n : Int) < most then [q.tail (most - n - 1).toNat] else []).all null = true := by
    by_cases h1 : most = -1
    · rw [if_pos h1]; simp [null]
    · rw [if_neg h1]
      by_cases h2 : (n : Int) < most
      · rw [if_pos h2]; simp [null_tail]
      · rw [if_neg h2]; simp
  rw [e, Bool.and_true]
theorem null_plain (t : Tr) : rchecks t = 0 → null (plainP t) = rnull t := by
  refine Tr.rec (motive_1 := fun t => rchecks t = 0 → null (plainP t) = rnull t) (motive_2 := fun ts => (∀ u ∈ ts, rchecks u = 0) → (plainsP ts).length = ts.length ∧ (plainsP ts).all null = rnullAll ts ∧ (plainsP ts).any null = rnullAny ts) ?_ ?_ ?_ t
  · intro k l kids mn mx ih hv
    obtain ⟨v1, v2, v3, v4⟩ := valid_parts hv
    obtain ⟨u1, u2, u3, u4, u5⟩ := kind_of_kids v1
    obtain ⟨i0, i1, i2⟩ := ih v4
    rw [plainP, rnull]
    have hone : 6 ≤ k → ∃ q, plainsP kids = [q] ∧ null (headP (plainsP kids)) = rnullAny kids := fun h6 => by
      obtain ⟨q, hq⟩ := List.length_eq_one_iff.1 (i0.trans (u5 h6))
      refine ⟨q, hq, ?_⟩
      rw [← i2, hq]
      simp [headP]
    have hk : k = 1 ∨ k = 2 ∨ k = 3 ∨ k = 4 ∨ k = 5 ∨ k = 6 ∨ k = 7 ∨ k = 8 ∨ k = 9 := by omega
    rcases hk with rfl | rfl | rfl | rfl | rfl | rfl | rfl | rfl | rfl
    · simp [plainPK, null]
    · simp [plainPK, null]
    · simp [plainPK, null]
    · simp [plainPK, null_row4, i1]
    · have hne : plainsP kids ≠ [] := fun h => by
        have := (u4 (.inr rfl)).1
        rw [h] at i0
        simp at i0
        omega
      simp [plainPK, null_row5 _ hne, i2]
    · simp [plainPK, null]
    · obtain ⟨q, hq, hn⟩ := hone (by omega)
      simp [plainPK, null, hn]
    · simp [plainPK, null_maybe]
    · obtain ⟨q, hq, hn⟩ := hone (by omega)
      have h9 := v3 rfl
      unfold repBad at h9
      have e : decide (mn.toNat = 0) = decide (mn = 0) := decide_eq_decide.2 (by omega)
      show null ((headP (plainsP kids)).rep mn.toNat mx) = (decide (mn = 0) || rnullAny kids)
      rw [null_rep, hn, e]
  · intro _
    simp [plainsP, rnullAll, rnullAny]
  · intro t ts h1 h2 hv
    obtain ⟨a, b, c⟩ := h2 (fun u hu => hv u (List.mem_cons_of_mem _ hu))
    have d := h1 (hv t (List.mem_cons_self ..))
    rw [plainsP, rnullAll, rnullAny, List.length_cons, List.length_cons, a, List.all_cons, List.any_cons, b, c, d]
    exact ⟨rfl, rfl, rfl⟩
end Go.Proofs.YtkhllknahjmciaaGreat
