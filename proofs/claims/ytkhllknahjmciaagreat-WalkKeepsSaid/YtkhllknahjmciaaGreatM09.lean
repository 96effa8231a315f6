/-
  Machines (chapter 16): how great a plain path is; a path's machine. Graphs as data, and how they lie in memory. Graphs (the document's own): where a node stands.
-/
import Derived.Test.YtkhllknahjmciaaGreatM08
/-! Machines (chapter 16): how great a plain path is; a path's machine. -/
namespace Go.Proofs.YtkhllknahjmciaaGreat
open Go.RowKit
set_option linter.unusedVariables false
set_option linter.unusedSimpArgs false

def bigs : List Pl → Int
  | [] => 0
  | p :: ps => p.big + 1 + bigs ps
theorem big_pos (p : Pl) : 1 ≤ p.big := by cases p <;> simp [Pl.big]
theorem two_big (k : Int) (a b : Pl) : (Pl.two k a b).big = a.big + b.big + 1 := by
  unfold Pl.two; split <;> rfl
theorem row_big (k : Int) : ∀ ts : List Pl, ts ≠ [] → ((Pl.row k ts).big : Int) + 1 = bigs ts
  | [], h => absurd rfl h
  | [t], _ => by simp [Pl.row, bigs]
  | t :: u :: ts, _ => by
    have := row_big k (u :: ts) (by simp)
    rw [Pl.row, two_big, bigs, ← this]
    omega
theorem bigs_app : ∀ a b : List Pl, bigs (a ++ b) = bigs a + bigs b
  | [], b => by simp [bigs]
  | x :: a, b => by rw [List.cons_append, bigs, bigs, bigs_app a b]; omega
theorem bigs_rep (p : Pl) : ∀ n : Nat, bigs (List.replicate n p) = n * (p.big + 1)
  | 0 => by simp [bigs]
  | n + 1 => by
    rw [List.replicate_succ, bigs, bigs_rep p n, Int.natCast_add, Int.add_mul]
    omega
theorem tail_big (k : Pl) : ∀ n : Nat, ((k.tail n).big : Int) = (n + 1) * (k.big + 3) - 1
  | 0 => by simp [Pl.tail, Pl.maybe, Pl.big]; omega
  | n + 1 => by
    have := tail_big k n
    simp only [Pl.tail, Pl.maybe, Pl.big]
    rw [show ((1 + (k.big + (k.tail n).big + 1) + 1 : Nat) : Int) = (k.tail n).big + k.big + 3 by omega, this]
    have e : ((n + 1 : Nat) : Int) + 1 = ((n : Int) + 1) + 1 := by omega
    rw [e, Int.add_mul (↑n + 1) 1]
    omega
theorem kids_sum (kids : List Tr) (at' : Int) (h : ∀ u ∈ kids, ((plainP u).big : Int) ≤ 5 * rsize u (at' + 1) - 2) : ∀ n, 0 ≤ n → rsizes kids at' n ≤ 60 → bigs (plainsP kids) + 5 * n + kids.length ≤ 5 * rsizes kids at' n := by
  induction kids with
  | nil => intro n h0 h1; simp only [plainsP, bigs, rsizes, List.length_nil]; omega
  | cons t ts ih =>
    intro n h0 h1
    rw [rsizes] at h1 ⊢
    have hr := (rsize_le t (at' + 1)).1
    have h3 : 0 ≤ rsum n (rsize t (at' + 1)) ∧ rsum n (rsize t (at' + 1)) ≤ 1099511627776 := by unfold rsum; omega
    have h4 := rsizes_ge ts at' _ h3.1 h3.2
    have h5 := ih (fun u hu => h u (by simp [hu])) _ h3.1 h1
    have h6 := h t (by simp)
    have h7 : rsum n (rsize t (at' + 1)) = n + rsize t (at' + 1) := by
      have h8 : rsum n (rsize t (at' + 1)) ≤ 60 := by omega
      unfold rsum at h8 ⊢; omega
    rw [h7] at h5 ⊢
    rw [plainsP, bigs, List.length_cons]
    omega
theorem big_le (t : Tr) : ∀ at', rchecks t = 0 → rsize t at' ≤ 60 → ((plainP t).big : Int) ≤ 5 * rsize t at' - 2 := by
  induction t using Tr.ind with
  | node k l kids mn mx ih =>
    intro at' hv hs
    obtain ⟨s0, s1, s2, s3, s4, s5⟩ := small_parts hv hs
    obtain ⟨v1, v2, v3, v4⟩ := valid_parts hv
    obtain ⟨u1, u2, u3, u4, u5⟩ := kind_of_kids v1
    have hk := kids_sum kids at' (fun u hu => ih u hu (at' + 1) (v4 u hu) (s5 u hu)) 0 (by omega) s3
    rw [s1] at hs ⊢
    obtain ⟨z1, z2, z3, z4, z5⟩ := rsizeK_small hv s2 s3 hs
    rw [plainP]
    unfold plainPK
    by_cases h123 : k ≤ 3
    · rw [z1 h123]
      by_cases e2 : k = 2
      · rw [if_pos e2]; simp [Pl.big]
      · rw [if_neg e2]
        by_cases e3 : k = 3
        · rw [if_pos e3]; simp [Pl.big]
        · rw [if_neg e3, if_neg (by omega), if_neg (by omega), if_neg (by omega), if_neg (by omega), if_neg (by omega)]; simp [Pl.big]
    · rw [if_neg (by omega), if_neg (by omega)]
      by_cases h45 : k = 4 ∨ k = 5
      · rw [if_pos h45, z2 (by omega)]
        have hl := (u4 h45).1
        have hne : plainsP kids ≠ [] := by
          cases kids with
          | nil => simp at hl
          | cons a b => rw [plainsP]; simp
        have := row_big k _ hne
        omega
      · rw [if_neg h45]
        have hl := u5 (by omega)
        obtain ⟨u, rfl⟩ := List.length_eq_one_iff.1 hl
        simp only [plainsP, bigs, headP, List.length_cons, List.length_nil] at hk ⊢
        generalize rsizes [u] at' 0 = n at *
        generalize plainP u = q at *
        have hq := big_pos q
        by_cases h6 : k = 6
        · rw [if_pos h6, z2 (by omega)]; simp only [Pl.big]; omega
        · rw [if_neg h6]
          by_cases h7 : k = 7
          · rw [if_pos h7, z3 h7]; simp only [Pl.big]; omega
          · rw [if_neg h7]
            by_cases h8 : k = 8
            · rw [if_pos h8, z4 h8]; simp only [Pl.maybe, Pl.big]; omega
            · have h9 : k = 9 := by omega
              rw [if_neg h8, if_pos h9]
              obtain ⟨c, c1, c2, c3, c4⟩ := z5 h9
              have hb := v3 h9
              unfold repBad at hb
              rw [c4]
              have hn : (q.big : Int) + 2 ≤ 5 * n := by omega
              have hmul : c * ((q.big : Int) + 2) ≤ c * (5 * n) := Int.mul_le_mul_of_nonneg_left hn (by omega)
              have e5 : c * (5 * n) = 5 * (c * n) := by rw [← Int.mul_assoc, Int.mul_comm c 5, Int.mul_assoc]
              have e2 : c * ((q.big : Int) + 2) = c * q.big + c * 2 := Int.mul_add _ _ _
              unfold Pl.rep
              obtain ⟨m, rfl⟩ : ∃ m : Nat, mn = m := ⟨mn.toNat, by omega⟩
              rw [Int.toNat_natCast]
              rcases c3 with ⟨hm1, hm2, hm3, hm4⟩ | ⟨hm1, hm4⟩
              · rw [if_pos hm1]
                have := row_big 4 (List.replicate m q ++ [q.star]) (by simp)
                rw [bigs_app, bigs_rep] at this
                simp only [bigs, Pl.big] at this
                rw [hm4] at hmul e5 e2 c1 c2 ⊢
                have e6 : (m : Int) * (q.big + 1) = m * q.big + m := by rw [Int.mul_add, Int.mul_one]
                have e7 : ((m : Int) + 1) * q.big = m * q.big + q.big := by rw [Int.add_mul, Int.one_mul]
                rw [e6] at this
                rw [e7] at e2
                generalize (m : Int) * q.big = X at *
                generalize ((m : Int) + 1) * n = Y at *
                generalize ((m : Int) + 1) * ((q.big : Int) + 2) = Z at *
                generalize ((m : Int) + 1) * (5 * n) = V at *
                omega
              · rw [if_neg hm1]
                by_cases hlt : (m : Int) < mx
                · rw [if_pos hlt]
                  have := row_big 4 (List.replicate m q ++ [q.tail (mx - m - 1).toNat]) (by simp)
                  rw [bigs_app, bigs_rep] at this
                  simp only [bigs] at this
                  rw [tail_big] at this
                  rw [show (((mx - m - 1).toNat : Nat) : Int) + 1 = mx - m by omega] at this
                  rw [hm4] at hmul e5 e2 c1 c2 ⊢
                  have e6 : (m : Int) * (q.big + 1) = m * q.big + m := by rw [Int.mul_add, Int.mul_one]
                  have e7 : (mx - m) * ((q.big : Int) + 3) = mx * q.big - m * q.big + (mx - m) * 3 := by rw [Int.mul_add, Int.sub_mul]
                  rw [e6, e7] at this
                  generalize (m : Int) * q.big = X at *
                  generalize mx * (q.big : Int) = W at *
                  generalize mx * n = Y at *
                  generalize mx * ((q.big : Int) + 2) = Z at *
                  generalize mx * (5 * n) = V at *
                  omega
                · rw [if_neg hlt, List.append_nil]
                  have hme : (m : Int) = mx := by omega
                  have := row_big 4 (List.replicate m q) (by
                    intro h
                    have := congrArg List.length h
                    simp at this
                    omega)
                  rw [bigs_rep] at this
                  rw [hm4, ← hme] at hmul e5 e2 c1 c2 ⊢
                  have e6 : (m : Int) * (q.big + 1) = m * q.big + m := by rw [Int.mul_add, Int.mul_one]
                  rw [e6] at this
                  generalize (m : Int) * q.big = X at *
                  generalize (m : Int) * n = Y at *
                  generalize (m : Int) * ((q.big : Int) + 2) = Z at *
                  generalize (m : Int) * (5 * n) = V at *
                  omega
theorem blk4_base {w : World} {p t : Nat} {a0 a1 a2 a3 : Value} (h : Blk w p #[a0, a1, a2, a3] t) :
    w.cell? ⟨p, 0, none⟩ = some a0 ∧ w.frozen? ⟨p, 0, none⟩ = false ∧ w.cell? ⟨p, 1, none⟩ = some a1 ∧ w.frozen? ⟨p, 1, none⟩ = false ∧ w.cell? ⟨p, 2, none⟩ = some a2 ∧ w.frozen? ⟨p, 2, none⟩ = false ∧ w.cell? ⟨p, 3, none⟩ = some a3 ∧ w.frozen? ⟨p, 3, none⟩ = false :=
  ⟨h.cell 0 _ rfl, h.frozen 0, h.cell 1 _ rfl, h.frozen 1, h.cell 2 _ rfl, h.frozen 2, h.cell 3 _ rfl, h.frozen 3⟩
theorem blk4_two {w : World} {p t : Nat} {a0 a1 a2 a3 : Value} (h : Blk w p #[a0, a1, a2, a3] t) (c1 c2 : Value) :
    ((w.setCell ⟨p, 1, none⟩ c1).setCell ⟨p, 2, none⟩ c2).cell? ⟨p, 0, none⟩ = some a0 ∧ ((w.setCell ⟨p, 1, none⟩ c1).setCell ⟨p, 2, none⟩ c2).cell? ⟨p, 1, none⟩ = some c1 ∧ ((w.setCell ⟨p, 1, none⟩ c1).setCell ⟨p, 2, none⟩ c2).cell? ⟨p, 2, none⟩ = some c2 ∧ ((w.setCell ⟨p, 1, none⟩ c1).setCell ⟨p, 2, none⟩ c2).cell? ⟨p, 3, none⟩ = some a3 := by
  have h1 := (h.set 1 c1).set 2 c2
  exact ⟨h1.cell 0 _ rfl, h1.cell 1 _ rfl, h1.cell 2 _ rfl, h1.cell 3 _ rfl⟩
theorem blk4_facts {w : World} {p t : Nat} {a0 a1 a2 a3 : Value} (h : Blk w p #[a0, a1, a2, a3] t) (c0 c1 c2 c3 : Value) :
    (((w.setCell ⟨p, 0, none⟩ c0).setCell ⟨p, 1, none⟩ c1).setCell ⟨p, 2, none⟩ c2).cell? ⟨p, 3, none⟩ = some a3 ∧
    (((w.setCell ⟨p, 0, none⟩ c0).setCell ⟨p, 1, none⟩ c1).setCell ⟨p, 2, none⟩ c2).frozen? ⟨p, 3, none⟩ = false ∧
    ((((w.setCell ⟨p, 0, none⟩ c0).setCell ⟨p, 1, none⟩ c1).setCell ⟨p, 2, none⟩ c2).setCell ⟨p, 3, none⟩ c3).cell? ⟨p, 0, none⟩ = some c0 ∧
    ((((w.setCell ⟨p, 0, none⟩ c0).setCell ⟨p, 1, none⟩ c1).setCell ⟨p, 2, none⟩ c2).setCell ⟨p, 3, none⟩ c3).cell? ⟨p, 1, none⟩ = some c1 ∧
    ((((w.setCell ⟨p, 0, none⟩ c0).setCell ⟨p, 1, none⟩ c1).setCell ⟨p, 2, none⟩ c2).setCell ⟨p, 3, none⟩ c3).cell? ⟨p, 2, none⟩ = some c2 ∧
    ((((w.setCell ⟨p, 0, none⟩ c0).setCell ⟨p, 1, none⟩ c1).setCell ⟨p, 2, none⟩ c2).setCell ⟨p, 3, none⟩ c3).cell? ⟨p, 3, none⟩ = some c3 := by
  have h3 := ((h.set 0 c0).set 1 c1).set 2 c2
  have h4 := h3.set 3 c3
  exact ⟨h3.cell 3 _ rfl, h3.frozen 3, h4.cell 0 _ rfl, h4.cell 1 _ rfl, h4.cell 2 _ rfl, h4.cell 3 _ rfl⟩
theorem NSt.made (w : World) : NSt (w.alloc (.cells #[.int .i64 0, .int .i64 0, .int .i64 0, .slice none 0 0] 158)) w.heap.size 0 0 0 [] (.slice none 0 0) :=
  ⟨Blk.new _ _ _, World.ownsRow_nil _ _ _ _⟩
/-- A path's machine. -/
def machP (t : Tr) : Pt := partP (plainP t) 0
theorem mach_n {t : Tr} (hv : rcheck t = 0) : 1 ≤ (plainP t).big ∧ (plainP t).big ≤ 298 := by
  obtain ⟨v1, v2, v3, v4⟩ := rcheck_zero hv
  have := big_le t 0 v3 v4
  have := big_pos (plainP t)
  omega
theorem info_n : (Tryz.prog.info? 158).map (fun i => (i.zero, i.size, i.bytes)) = some (some (.agg #[.int .i64 0, .int .i64 0, .int .i64 0, .slice none 0 0]), 4, 48) := by kernel_rfl
set_option maxRecDepth 100000 in
set_option maxHeartbeats 1000000 in
theorem Make_any (t : Tr) (w : World) (cs : List Value) (hv : rcheck t = 0) (h : TrC w t cs) :
    Calls Tryz.prog 92 #[.agg cs.toArray] w fun e w' => ∃ al cap, e = .returned (.tuple #[.agg #[.int .i64 (machP t).n, .int .i64 (machP t).s, .int .i64 (machP t).a, .slice al (machP t).ms.length cap], .int .i64 0]) ∧ Cells w' al (machP t).ms.length cap (mvCells (machP t).ms) ∧ Ext w w' := by
  obtain ⟨k, l, a, n, cap, mn, mx, rfl⟩ := h.form
  have hb := Blk.new w #[.int .i64 k, .string l, .slice a n cap, .int .i64 mn, .int .i64 mx] 28
  have hw1 : Ext w (w.alloc (.cells #[.int .i64 k, .string l, .slice a n cap, .int .i64 mn, .int .i64 mx] 28)) := (Chg.refl w).alloc _
  have HB := Lib.hid (And.intro hb hw1)
  have HS := Lib.hid (fun W (hW : Ext w W) => Plain_any t (fun _ => False) W _ hv (fun _ h => h.elim) (TrC.ext hW _ _ h))
  have HV := Lib.hid (mach_n hv)
  obtain ⟨M, hM⟩ : ∃ M, machP t = M := ⟨_, rfl⟩
  rw [hM]
  have HE : Hid (partP (plainP t) 0 = M) := Lib.hid hM
  clear hb hw1 h hv hM
  go_enter Tryz.func92, Tryz.ntmps92
  go_wp2_with fail
  refine (HS.out _ (HB.out.2.alloc _)).mono ?_
  rintro e w2 ⟨cs2, rfl, ht2, hx2⟩
  obtain ⟨k2, l2, a2, n2, cap2, mn2, mx2, rfl⟩ := ht2.form
  have HT := Lib.hid (And.intro ht2.trc ((HB.out.2.alloc _).trans hx2))
  have kb2 := (Blk.new (w.alloc (.cells #[.int .i64 k, .string l, .slice a n cap, .int .i64 mn, .int .i64 mx] 28)) #[.int .i64 0, .int .i64 0, .int .i64 0, .slice none 0 0] 158).chg hx2 (fun h => h)
  simp only [World.size_alloc] at kb2
  have HK2 := Lib.hid kb2
  have hsz : w.heap.size + 1 < w2.heap.size := kb2.lt
  clear ht2 hx2 kb2
  go_wp2_with fail
  have hx3 : Ext w2 (w2.alloc (.cells #[.int .i64 k2, .string l2, .slice a2 n2 cap2, .int .i64 mn2, .int .i64 mx2] 28)) := (Chg.refl w2).alloc _
  have hs0 := NSt.made (w2.alloc (.cells #[.int .i64 k2, .string l2, .slice a2 n2 cap2, .int .i64 mn2, .int .i64 mx2] 28))
  have HP := Lib.hid (part_any (plainP t) (w2.alloc (.cells #[.int .i64 k2, .string l2, .slice a2 n2 cap2, .int .i64 mn2, .int .i64 mx2] 28)) _ (w2.heap.size + 1) 0 0 0 [] _ _ (by simpa using hs0) (by simp) ((Chg.refl _).alloc _) (by rw [plainP_tr]; exact HT.out.1.ext hx3) (by omega) (by have := HV.out; omega) (by have := HV.out; simp; omega))
  rw [HE.out] at HP
  refine HP.out.mono ?_
  rintro e w3 ⟨v3, rfl, hn3, hm3⟩
  have hx := And.intro (HT.out.2.trans (hx3.trans (hm3.old (n := 0) (a := 0) (b := 0) (ms := []) (by simpa using hs0) ((Chg.refl _).alloc _) (by simp)))) (hx3.trans (hm3.old (n := 0) (a := 0) (b := 0) (ms := []) (by simpa using hs0) ((Chg.refl _).alloc _) (by simp)))
  clear hs0 hx3 HP
  obtain ⟨b0, -, b1, g1, b2, g2, b3, -⟩ := blk4_base hn3.1
  obtain ⟨y0, y1, y2, y3⟩ := blk4_two hn3.1 (.int .i64 M.s) (.int .i64 M.a)
  obtain ⟨al, capm, rfl⟩ := hn3.len
  have kr : Blk ((w3.setCell ⟨w2.heap.size + 1, 1, none⟩ (.int .i64 M.s)).setCell ⟨w2.heap.size + 1, 2, none⟩ (.int .i64 M.a)) (w.heap.size + 1) #[.int .i64 0, .int .i64 0, .int .i64 0, .slice none 0 0] 158 :=
    (HK2.out.chg hx.2 (fun h => h)).chg (set_chg (set_chg (p := w2.heap.size + 1) (Chg.refl _))) (by omega)
  obtain ⟨r0, s0, r1, s1, r2, s2, r3, s3⟩ := blk4_base kr
  obtain ⟨r4, s4, q0, q1, q2, q3⟩ := blk4_facts kr (.int .i64 M.n) (.int .i64 M.s) (.int .i64 M.a) (.slice al M.ms.length capm)
  have hx := hx.1
  clear kr
  have HN := Lib.hid (And.intro hn3 hx)
  clear hn3 hm3 hx
  go_wp2_with fail
  try simp only [Exit.inBlock, Exit.then]
  refine bodyPost_ret (by simp [results, Tryz.results92, go_sem, q0, q1, q2, q3]; try rfl) rfl ?_
  refine ⟨al, capm, rfl, ?_, ?_⟩
  · refine Cells.of_own (base := w2.heap.size + 1 + 1) (own_low (by simpa using HN.out.1.2) (S := fun b => b = w2.heap.size + 1 ∨ b = w.heap.size + 1) ?_ (by intro g hg e; omega))
    exact ((((((Chg.refl _).setCell _ _ (fun _ => .inl rfl)).setCell _ _ (fun _ => .inl rfl)).setCell _ _ (fun _ => .inr rfl)).setCell _ _ (fun _ => .inr rfl)).setCell _ _ (fun _ => .inr rfl)).setCell _ _ (fun _ => .inr rfl)
  · exact ((((((HN.out.2).setCell _ _ (by simp; omega)).setCell _ _ (by simp; omega)).setCell _ _ (by simp)).setCell _ _ (by simp)).setCell _ _ (by simp)).setCell _ _ (by simp)
end Go.Proofs.YtkhllknahjmciaaGreat

/-! Graphs as data, and how they lie in memory. -/
namespace Go.Proofs.YtkhllknahjmciaaGreat
open Go.RowKit
set_option linter.unusedVariables false
set_option linter.unusedSimpArgs false

/-- A node. -/
structure Nd where
  id : Int
  labels : List ByteArray
  props : List (ByteArray × ByteArray)
/-- An edge. -/
structure Eg where
  tok : Int
  fr : Int
  lab : ByteArray
  to : Int
structure Gr where
  nodes : List Nd
  edges : List Eg
  next : Int
def strCells : List ByteArray → List Value
  | [] => []
  | s :: ss => .string s :: strCells ss
def propCells : List (ByteArray × ByteArray) → List Value
  | [] => []
  | p :: ps => .string p.1 :: .string p.2 :: propCells ps
def Eg.cells (e : Eg) : List Value := [.int .i64 e.tok, .int .i64 e.fr, .string e.lab, .int .i64 e.to]
def egCells : List Eg → List Value
  | [] => []
  | e :: es => e.cells ++ egCells es
theorem strCells_at : ∀ {ss : List ByteArray} {i : Nat} {s : ByteArray}, ss[i]? = some s → (strCells ss)[i]? = some (.string s)
  | [], i, s, h => by simp at h
  | t :: ts, 0, s, h => by simp at h; subst h; rfl
  | t :: ts, i + 1, s, h => by
    rw [strCells, List.getElem?_cons_succ]; exact strCells_at (by simpa using h)
theorem propCells_at : ∀ {ps : List (ByteArray × ByteArray)} {i : Nat} {p : ByteArray × ByteArray}, ps[i]? = some p → (propCells ps)[i * 2]? = some (.string p.1) ∧ (propCells ps)[i * 2 + 1]? = some (.string p.2)
  | [], i, s, h => by simp at h
  | t :: ts, 0, s, h => by simp at h; subst h; exact ⟨rfl, rfl⟩
  | t :: ts, i + 1, s, h => by
    have := propCells_at (ps := ts) (i := i) (by simpa using h)
    rw [show (i + 1) * 2 = i * 2 + 2 by omega, show i * 2 + 2 + 1 = (i * 2 + 1) + 2 by omega]
    exact this
theorem egCells_at : ∀ {es : List Eg} {i : Nat} {e : Eg}, es[i]? = some e → ∀ j u, e.cells[j]? = some u → (egCells es)[i * 4 + j]? = some u
  | [], i, s, h => by simp at h
  | t :: ts, 0, s, h => by
    simp at h; subst h
    intro j u hj
    rw [egCells, Nat.zero_mul, Nat.zero_add, List.getElem?_append_left (List.getElem?_eq_some_iff.1 hj).1]
    exact hj
  | t :: ts, i + 1, s, h => by
    intro j u hj
    have := egCells_at (es := ts) (i := i) (by simpa using h) j u hj
    rw [egCells, List.getElem?_append_right (by simp [Eg.cells]; omega)]
    rw [show (i + 1) * 4 + j - t.cells.length = i * 4 + j by simp [Eg.cells]; omega]
    exact this
theorem strCells_len : ∀ ss : List ByteArray, (strCells ss).length = ss.length
  | [] => rfl
  | s :: ss => by rw [strCells, List.length_cons, List.length_cons, strCells_len ss]
theorem propCells_len : ∀ ss : List (ByteArray × ByteArray), (propCells ss).length = ss.length * 2
  | [] => rfl
  | s :: ss => by rw [propCells, List.length_cons, List.length_cons, List.length_cons, propCells_len ss]; omega
theorem egCells_len : ∀ ss : List Eg, (egCells ss).length = ss.length * 4
  | [] => rfl
  | s :: ss => by rw [egCells, List.length_append, List.length_cons, egCells_len ss]; simp [Eg.cells]; omega
/-- The three cells that read as a node. -/
def NdC (w : World) (nd : Nd) (cs : List Value) : Prop :=
  ∃ la lc pa pc, cs = [.int .i64 nd.id, .slice la nd.labels.length lc, .slice pa nd.props.length pc] ∧ Cells w la nd.labels.length lc (strCells nd.labels) ∧ Cells w pa nd.props.length pc (propCells nd.props)
def NdCs (w : World) : List Nd → List (List Value) → Prop
  | [], css => css = []
  | t :: ts, css => ∃ c cs, css = c :: cs ∧ NdC w t c ∧ NdCs w ts cs
theorem NdC.ext {w w' : World} (k : Ext w w') {nd : Nd} {cs : List Value} (h : NdC w nd cs) : NdC w' nd cs := by
  obtain ⟨la, lc, pa, pc, h1, h2, h3⟩ := h
  exact ⟨la, lc, pa, pc, h1, h2.ext k, h3.ext k⟩
theorem NdCs.ext {w w' : World} (k : Ext w w') : ∀ {ts : List Nd} {css : List (List Value)}, NdCs w ts css → NdCs w' ts css
  | [], css, h => h
  | t :: ts, css, h => by
    obtain ⟨c, cs, h1, h2, h3⟩ := h
    exact ⟨c, cs, h1, h2.ext k, NdCs.ext k h3⟩
theorem NdC.three {w : World} {t : Nd} {cs : List Value} (h : NdC w t cs) : cs.length = 3 := by
  obtain ⟨la, lc, pa, pc, rfl, -⟩ := h
  rfl
theorem NdCs.get {w : World} : ∀ {ts : List Nd} {css : List (List Value)}, NdCs w ts css → (∀ c ∈ css, c.length = 3) ∧ ∀ (i : Nat) (t : Nd), ts[i]? = some t → ∃ c, css[i]? = some c ∧ NdC w t c
  | [], css, h => by
    obtain rfl : css = [] := h
    exact ⟨by simp, fun i t hi => by simp at hi⟩
  | t :: ts, css, h => by
    obtain ⟨c, cs, rfl, h2, h3⟩ := h
    obtain ⟨h4, h5⟩ := NdCs.get h3
    refine ⟨fun d hd => ?_, fun i u hi => ?_⟩
    · rcases List.mem_cons.1 hd with rfl | hd
      · exact h2.three
      · exact h4 d hd
    · cases i with
      | zero => obtain rfl : t = u := by simpa using hi
                exact ⟨c, rfl, h2⟩
      | succ i => simpa using h5 i u (by simpa using hi)
/-- The slice of nodes. -/
def NsC (w : World) (ts : List Nd) (a : Option Addr) (cap : Nat) : Prop := ∃ css, Cells w a ts.length cap (List.flatten css) ∧ NdCs w ts css
theorem NsC.ext {w w' : World} (k : Ext w w') {ts : List Nd} {a : Option Addr} {cap : Nat} (h : NsC w ts a cap) : NsC w' ts a cap := by
  obtain ⟨css, h1, h2⟩ := h
  exact ⟨css, h1.ext k, h2.ext k⟩
theorem nd_at {w : World} {a : Option Addr} {cap : Nat} {ts : List Nd} (h : NsC w ts a cap) {i : Nat} {t : Nd} (hi : ts[i]? = some t) :
    ∃ x la lc pa pc, a = some x ∧ w.cell? (x.add (i * 3)) = some (.int .i64 t.id) ∧ w.cell? { block := (x.add (i * 3)).block, off := (x.add (i * 3)).off + 1 } = some (.slice la t.labels.length lc) ∧ w.cell? { block := (x.add (i * 3)).block, off := (x.add (i * 3)).off + 2 } = some (.slice pa t.props.length pc) ∧
      Cells w la t.labels.length lc (strCells t.labels) ∧ Cells w pa t.props.length pc (propCells t.props) := by
  obtain ⟨css, hc, ht⟩ := h
  obtain ⟨h5, hg⟩ := ht.get
  obtain ⟨c, hc1, hc2⟩ := hg i t hi
  obtain ⟨la, lc, pa, pc, rfl, hl, hp⟩ := hc2
  have key : ∀ j u, ([.int .i64 t.id, .slice la t.labels.length lc, .slice pa t.props.length pc] : List Value)[j]? = some u → ∃ x, a = some x ∧ w.cell? (x.add (i * 3 + j)) = some u := fun j u hu => hc.at _ u (flat_get 3 css i j _ u h5 hc1 hu)
  obtain ⟨x, rfl, k0⟩ := key 0 _ rfl
  obtain ⟨x1, e1, k1⟩ := key 1 _ rfl
  obtain ⟨x2, e2, k2⟩ := key 2 _ rfl
  cases e1; cases e2
  rw [add_off _ _ _ (by decide)] at k1 k2
  exact ⟨x, la, lc, pa, pc, rfl, k0, k1, k2, hl, hp⟩
/-- The slice of edges. -/
def EsC (w : World) (es : List Eg) (a : Option Addr) (cap : Nat) : Prop := Cells w a es.length cap (egCells es)
theorem eg_at {w : World} {a : Option Addr} {cap : Nat} {es : List Eg} (h : EsC w es a cap) {i : Nat} {e : Eg} (hi : es[i]? = some e) :
    ∃ x, a = some x ∧ w.cell? (x.add (i * 4)) = some (.int .i64 e.tok) ∧ w.cell? { block := (x.add (i * 4)).block, off := (x.add (i * 4)).off + 1 } = some (.int .i64 e.fr) ∧ w.cell? { block := (x.add (i * 4)).block, off := (x.add (i * 4)).off + 2 } = some (.string e.lab) ∧ w.cell? { block := (x.add (i * 4)).block, off := (x.add (i * 4)).off + 3 } = some (.int .i64 e.to) := by
  have key : ∀ j u, e.cells[j]? = some u → ∃ x, a = some x ∧ w.cell? (x.add (i * 4 + j)) = some u := fun j u hu => h.at _ u (egCells_at hi j u hu)
  obtain ⟨x, rfl, k0⟩ := key 0 _ rfl
  obtain ⟨x1, e1, k1⟩ := key 1 _ rfl
  obtain ⟨x2, e2, k2⟩ := key 2 _ rfl
  obtain ⟨x3, e3, k3⟩ := key 3 _ rfl
  cases e1; cases e2; cases e3
  rw [add_off _ _ _ (by decide)] at k1 k2 k3
  exact ⟨x, rfl, k0, k1, k2, k3⟩
theorem eg_at' {w : World} {a : Option Addr} {n cap : Nat} {es : List Eg} (h : Cells w a n cap (egCells es)) (hn : es.length = n) {i : Nat} {e : Eg} (hi : es[i]? = some e) :
    ∃ x, a = some x ∧ w.cell? (x.add (i * 4)) = some (.int .i64 e.tok) ∧ w.cell? { block := (x.add (i * 4)).block, off := (x.add (i * 4)).off + 1 } = some (.int .i64 e.fr) ∧ w.cell? { block := (x.add (i * 4)).block, off := (x.add (i * 4)).off + 2 } = some (.string e.lab) ∧ w.cell? { block := (x.add (i * 4)).block, off := (x.add (i * 4)).off + 3 } = some (.int .i64 e.to) := by
  subst hn
  exact eg_at h hi
theorem str_at {w : World} {a : Option Addr} {n cap : Nat} {ss : List ByteArray} (h : Cells w a n cap (strCells ss)) {i : Nat} {s : ByteArray} (hi : ss[i]? = some s) : ∃ x, a = some x ∧ w.cell? (x.add i) = some (.string s) := h.at _ _ (strCells_at hi)
theorem prop_at {w : World} {a : Option Addr} {n cap : Nat} {ps : List (ByteArray × ByteArray)} (h : Cells w a n cap (propCells ps)) {i : Nat} {p : ByteArray × ByteArray} (hi : ps[i]? = some p) : ∃ x, a = some x ∧ w.cell? (x.add (i * 2)) = some (.string p.1) ∧ w.cell? { block := (x.add (i * 2)).block, off := (x.add (i * 2)).off + 1 } = some (.string p.2) := by
  obtain ⟨h1, h2⟩ := propCells_at hi
  obtain ⟨x, rfl, k0⟩ := h.at _ _ h1
  obtain ⟨x1, e1, k1⟩ := h.at _ _ h2
  cases e1
  rw [add_off _ _ _ (by decide)] at k1
  exact ⟨x, rfl, k0, k1⟩
/-- The three cells that read as a graph. -/
def GrC (w : World) (g : Gr) (cs : List Value) : Prop := ∃ na nc ea ec, cs = [.slice na g.nodes.length nc, .slice ea g.edges.length ec, .int .i64 g.next] ∧ NsC w g.nodes na nc ∧ EsC w g.edges ea ec
theorem GrC.ext {w w' : World} (k : Ext w w') {g : Gr} {cs : List Value} (h : GrC w g cs) : GrC w' g cs := by
  obtain ⟨na, nc, ea, ec, h1, h2, h3⟩ := h
  exact ⟨na, nc, ea, ec, h1, h2.ext k, Cells.ext h3 k⟩
/-- A block of three cells. -/
theorem blk3_base {w : World} {p t : Nat} {a0 a1 a2 : Value} (h : Blk w p #[a0, a1, a2] t) :
    w.cell? ⟨p, 0, none⟩ = some a0 ∧ w.frozen? ⟨p, 0, none⟩ = false ∧ w.cell? ⟨p, 1, none⟩ = some a1 ∧ w.frozen? ⟨p, 1, none⟩ = false ∧ w.cell? ⟨p, 2, none⟩ = some a2 ∧ w.frozen? ⟨p, 2, none⟩ = false :=
  ⟨h.cell 0 _ rfl, h.frozen 0, h.cell 1 _ rfl, h.frozen 1, h.cell 2 _ rfl, h.frozen 2⟩
end Go.Proofs.YtkhllknahjmciaaGreat

/-! Graphs (the document's own): where a node stands. -/
namespace Go.Proofs.YtkhllknahjmciaaGreat
open Go.RowKit
set_option linter.unusedVariables false
set_option linter.unusedSimpArgs false

def placeN : List Nd → Int → Nat → Int
  | [], _, _ => -1
  | t :: ts, id, i => if t.id = id then i else placeN ts id (i + 1)
theorem placeN_drop {ts : List Nd} {i : Nat} {t : Nd} (h : ts[i]? = some t) (id : Int) : placeN (ts.drop i) id i = if t.id = id then (i : Int) else placeN (ts.drop (i + 1)) id (i + 1) := by
  obtain ⟨hi, rfl⟩ := List.getElem?_eq_some_iff.1 h
  rw [List.drop_eq_getElem_cons hi, placeN]
set_option maxRecDepth 100000 in
set_option maxHeartbeats 1000000 in
theorem rplace_any (ts : List Nd) (id : Int) (w : World) (na : Option Addr) (nc : Nat) (ea : Value) (nx : Value) (h : NsC w ts na nc) :
    Calls Tryz.prog 51 #[.agg #[.slice na ts.length nc, ea, nx], .int .i64 id] w fun e w' => e = .returned (.int .i64 (placeN ts id 0)) ∧ Ext w w' := by
  have hb := Blk.new w #[.slice na ts.length nc, ea, nx] 25
  have hw1 : Ext w (w.alloc (.cells #[.slice na ts.length nc, ea, nx] 25)) := (Chg.refl w).alloc _
  have hc : ts.length ≤ nc ∧ nc ≤ maxLen := by obtain ⟨css, h1, -⟩ := h; exact ⟨h1.1, h1.2.1⟩
  unfold maxLen at hc
  obtain ⟨R, hR⟩ : ∃ R, placeN ts id 0 = R := ⟨_, rfl⟩
  rw [hR]
  obtain ⟨m, hm⟩ : ∃ m, ts.length = m := ⟨_, rfl⟩
  rw [hm] at hc hb hw1 ⊢
  have HB := Lib.hid (And.intro hb hw1)
  have HH := Lib.hid (And.intro h (And.intro hR hm))
  have hm1 := hc.1
  have hm2 := hc.2
  obtain ⟨b0, -, -⟩ := blk3_base hb
  clear hb hw1 h hR hm hc
  go_enter Tryz.func51, Tryz.ntmps51
  go_wp2_with fail
  go_loopg [5] m (fun g l5 wr => ∃ i : Nat, i ≤ m ∧ wr = w.alloc (.cells #[.slice na m nc, ea, nx] 25) ∧ placeN (ts.drop i) id i = R ∧ l5 = .int .i64 i ∧ g = m - i)
  case atStart => exact ⟨0, Nat.zero_le _, rfl, HH.out.2.1, rfl, rfl⟩
  case round =>
    obtain ⟨i, hi, rfl, hr, rfl, rfl⟩ := hrel
    by_cases hin : i < m
    · have hin' : (i : Int) < m := by omega
      obtain ⟨t, ht⟩ : ∃ t, ts[i]? = some t := ⟨_, List.getElem?_eq_getElem (by rw [HH.out.2.2]; exact hin)⟩
      obtain ⟨x, la, lc, pa, pc, rfl, c0, -⟩ := nd_at (HH.out.1.ext HB.out.2) ht
      rw [placeN_drop ht] at hr
      by_cases he : t.id = id
      · have e1 : (t.id == id) = true := by simpa using he
        rw [if_pos he] at hr
        subst hr
        clear he ht
        go_wp2_with fail
        go_ret
        exact ⟨rfl, HB.out.2⟩
      · have e1 : (t.id == id) = false := by simpa using he
        rw [if_neg he] at hr
        have HR := Lib.hid hr
        clear he ht hr
        go_wp2_with fail
        go_roundg (m - (i + 1))
        case measure => omega
        case rel => exact ⟨i + 1, by omega, rfl, HR.out, rfl, rfl⟩
    · obtain rfl : i = m := by omega
      rw [List.drop_of_length_le (by rw [HH.out.2.2]; exact Nat.le_refl _), placeN] at hr
      subst hr
      go_wp2_with fail
      go_ret
      exact ⟨rfl, HB.out.2⟩
set_option maxRecDepth 100000 in
set_option maxHeartbeats 1000000 in
theorem lplace_any (ts : List Nd) (id : Int) (w : World) (na : Option Addr) (nc : Nat) (ea : Value) (nx : Value) (h : NsC w ts na nc) :
    Calls Tryz.prog 14 #[.agg #[.slice na ts.length nc, ea, nx], .int .i64 id] w fun e w' => e = .returned (.int .i64 (placeN ts id 0)) ∧ Ext w w' := by
  have hb := Blk.new w #[.slice na ts.length nc, ea, nx] 25
  have hw1 : Ext w (w.alloc (.cells #[.slice na ts.length nc, ea, nx] 25)) := (Chg.refl w).alloc _
  have hc : ts.length ≤ nc ∧ nc ≤ maxLen := by obtain ⟨css, h1, -⟩ := h; exact ⟨h1.1, h1.2.1⟩
  unfold maxLen at hc
  obtain ⟨R, hR⟩ : ∃ R, placeN ts id 0 = R := ⟨_, rfl⟩
  rw [hR]
  obtain ⟨m, hm⟩ : ∃ m, ts.length = m := ⟨_, rfl⟩
  rw [hm] at hc hb hw1 ⊢
  have HB := Lib.hid (And.intro hb hw1)
  have HH := Lib.hid (And.intro h (And.intro hR hm))
  have hm1 := hc.1
  have hm2 := hc.2
  obtain ⟨b0, -, -⟩ := blk3_base hb
  clear hb hw1 h hR hm hc
  go_enter Tryz.func14, Tryz.ntmps14
  go_wp2_with fail
  go_loopg [5] m (fun g l5 wr => ∃ i : Nat, i ≤ m ∧ wr = w.alloc (.cells #[.slice na m nc, ea, nx] 25) ∧ placeN (ts.drop i) id i = R ∧ l5 = .int .i64 i ∧ g = m - i)
  case atStart => exact ⟨0, Nat.zero_le _, rfl, HH.out.2.1, rfl, rfl⟩
  case round =>
    obtain ⟨i, hi, rfl, hr, rfl, rfl⟩ := hrel
    by_cases hin : i < m
    · have hin' : (i : Int) < m := by omega
      obtain ⟨t, ht⟩ : ∃ t, ts[i]? = some t := ⟨_, List.getElem?_eq_getElem (by rw [HH.out.2.2]; exact hin)⟩
      obtain ⟨x, la, lc, pa, pc, rfl, c0, -⟩ := nd_at (HH.out.1.ext HB.out.2) ht
      rw [placeN_drop ht] at hr
      by_cases he : t.id = id
      · have e1 : (t.id == id) = true := by simpa using he
        rw [if_pos he] at hr
        subst hr
        clear he ht
        go_wp2_with fail
        go_ret
        exact ⟨rfl, HB.out.2⟩
      · have e1 : (t.id == id) = false := by simpa using he
        rw [if_neg he] at hr
        have HR := Lib.hid hr
        clear he ht hr
        go_wp2_with fail
        go_roundg (m - (i + 1))
        case measure => omega
        case rel => exact ⟨i + 1, by omega, rfl, HR.out, rfl, rfl⟩
    · obtain rfl : i = m := by omega
      rw [List.drop_of_length_le (by rw [HH.out.2.2]; exact Nat.le_refl _), placeN] at hr
      subst hr
      go_wp2_with fail
      go_ret
      exact ⟨rfl, HB.out.2⟩
end Go.Proofs.YtkhllknahjmciaaGreat
