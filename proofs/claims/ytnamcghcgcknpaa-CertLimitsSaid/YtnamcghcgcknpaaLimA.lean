/-
  The law CertLimits (chapter 24): what its loops build.
-/
import Derived.Test.YtnamcghcgcknpaaLawF
import Derived.OwnWalk
namespace Go.Proofs.Ytnamcghcgcknpaa
open Go.RowKit
set_option linter.unusedVariables false

/-- The cells of the cert that is built. -/
def cl (v1 v2 : Value) : Array Value := #[.int .i64 0, v1, v2, .int .i64 2, .bool false, .slice none 0 0, .int .i64 0, .float .f64 0]
theorem ext_of {w w' : World} (h : Chg (fun b => w.heap.size ≤ b) w w') : Ext w w' := h.mono fun b hb h => absurd h (by omega)
/-- The nodes, i of them. -/
structure L1 (w wr : World) (node : Int) (v : Value) (i : Nat) : Prop where
  ext : Ext w wr
  box : Blk wr w.heap.size (cl v (.slice none 0 0)) 33
  own : wr.ownsRow (w.heap.size + 1) 3 1 v i (List.replicate i (.int .i64 node))
theorem L1.next {w wr w' : World} {node : Int} {v v' : Value} {i : Nat} {o : Obj} (h : L1 w wr node v i) (u1 : w'.ownsRow (w.heap.size + 1) 3 1 v' (i + 1) (List.replicate i (.int .i64 node) ++ [.int .i64 node])) (u2 : (wr.alloc o).grownBy w' v.ownBlock) :
    Blk w' w.heap.size (cl v (.slice none 0 0)) 33 ∧ L1 w (w'.setCell ⟨w.heap.size, 1, none⟩ v') node v' (i + 1) := by
  have hx : Ext w w' := ext_grow h.ext (ownsRow_base h.own (by omega)) u2
  have hb : Blk w' w.heap.size (cl v (.slice none 0 0)) 33 :=
    (h.box.chg (S := fun _ => False) ((Chg.refl wr).alloc o) (fun h => h)).chg (Chg.of_grown u2) (fun hs => by have := (h.own.lt _ hs.symm).1; omega)
  refine ⟨hb, ext_of (Chg.setCell (hx.mono fun _ _ h => h.elim) _ _ (fun _ => Nat.le_refl _)), hb.set 1 v', ?_⟩
  rw [List.replicate_succ']
  exact own_chg u1 (Chg.setCell (S := fun b => b = w.heap.size) (Chg.refl w') _ _ (fun _ => rfl)) (fun g hg e => by have := (u1.lt g hg).1; omega)
/-- The walks, i of them. -/
def wl3 (sv : Value) : Nat → List Value
  | 0 => []
  | i + 1 => sv :: List.replicate i (.slice none 0 0)
theorem wl3_zero (sv : Value) : wl3 sv 0 ++ [sv] = wl3 sv 1 := rfl
theorem wl3_succ (sv : Value) (i : Nat) : wl3 sv (i + 1) ++ [.slice none 0 0] = wl3 sv (i + 1 + 1) := by
  simp [wl3, List.replicate_succ']
structure L3 (w2 wr : World) (B : Nat) (v u sv : Value) (i : Nat) : Prop where
  chg : Chg (fun b => b = B) w2 wr
  box : Blk wr B (cl v u) 33
  own : wr.ownsRow w2.heap.size 54 1 u i (wl3 sv i)
theorem L3.next {w2 wr w' : World} {B : Nat} {v u u' sv x : Value} {i : Nat} {o : Obj} (h : L3 w2 wr B v u sv i) (hB : B < w2.heap.size) (hx : wl3 sv i ++ [x] = wl3 sv (i + 1)) (u1 : w'.ownsRow w2.heap.size 54 1 u' (i + 1) (wl3 sv i ++ [x])) (u2 : (wr.alloc o).grownBy w' u.ownBlock) :
    Blk w' B (cl v u) 33 ∧ L3 w2 (w'.setCell ⟨B, 2, none⟩ u') B v u' sv (i + 1) := by
  have hx3 : Chg (fun b => b = B ∨ w2.heap.size ≤ b) w2 w' := chg_grow (h.chg.mono fun _ _ h => .inl h) h.own u2
  have hb : Blk w' B (cl v u) 33 :=
    (h.box.chg (S := fun _ => False) ((Chg.refl wr).alloc o) (fun h => h)).chg (Chg.of_grown u2) (fun hs => by have := (h.own.lt _ hs.symm).1; omega)
  refine ⟨hb, Chg.setCell (hx3.mono fun b hb h => h.elim id fun h => absurd h (by omega)) _ _ (fun _ => rfl), hb.set 2 u', ?_⟩
  rw [← hx]
  exact own_chg u1 (Chg.setCell (S := fun b => b = B) (Chg.refl w') _ _ (fun _ => rfl)) (fun g hg e => by have := (u1.lt g hg).1; omega)
/-- The steps, i of them set. -/
def sl2 (t : Int) (k i : Nat) : List (Int × Bool) := List.replicate i (t, false) ++ List.replicate (k - i) (0, false)
theorem sl2_length (t : Int) {k i : Nat} (h : i ≤ k) : (sl2 t k i).length = k := by
  simp [sl2]; omega
theorem stepsI_app (a b : List (Int × Bool)) : stepsI (a ++ b) = stepsI a ++ stepsI b := by simp [stepsI]
theorem sl2_step (t : Int) {k i : Nat} (h : i < k) : (stepsI (sl2 t k i)).set (2 * i) (.int .i64 t) = stepsI (sl2 t k (i + 1)) := by
  obtain ⟨m, hm⟩ : ∃ m, k - i = m + 1 := ⟨k - i - 1, by omega⟩
  have hm2 : k - (i + 1) = m := by omega
  have e1 : sl2 t k i = List.replicate i (t, false) ++ ((0, false) :: List.replicate m (0, false)) := by
    unfold sl2; rw [hm, List.replicate_succ]
  have e2 : sl2 t k (i + 1) = List.replicate i (t, false) ++ ((t, false) :: List.replicate m (0, false)) := by
    unfold sl2; rw [hm2, List.replicate_succ', List.append_assoc]; rfl
  rw [e1, e2, stepsI_app, stepsI_app]
  have hl : (stepsI (List.replicate i (t, false))).length = 2 * i := by rw [stepsI_length, List.length_replicate]; omega
  rw [List.set_append_right _ _ (by omega), hl, Nat.sub_self]
  rfl
theorem made_steps (k : Nat) : (madeCells (Value.agg #[.int .i64 0, .bool false]).cells (k * 2)).toList = stepsI (List.replicate k (0, false)) := by
  refine List.ext_getElem? fun j => ?_
  have hc : (Value.agg #[.int .i64 0, .bool false]).cells = #[.int .i64 0, .bool false] := rfl
  rw [hc]
  have hsz : (madeCells #[Value.int .i64 0, .bool false] (k * 2)).size = k * 2 := size_madeCells _ _
  by_cases hj : j < k * 2
  · have hs : (List.replicate k ((0 : Int), false))[j / 2]? = some (0, false) := by
      rw [List.getElem?_replicate]; rw [if_pos (by omega)]
    obtain ⟨h1, h2⟩ := stepsI_get _ _ _ hs
    rw [Array.getElem?_toList]
    rcases Nat.mod_two_eq_zero_or_one j with hm | hm
    · have e : 2 * (j / 2) = j := by omega
      rw [e] at h1
      rw [h1]
      simp [madeCells, hj, hm]
    · have e : 2 * (j / 2) + 1 = j := by omega
      rw [e] at h2
      rw [h2]
      simp [madeCells, hj, hm]
  · rw [List.getElem?_eq_none (by rw [Array.length_toList, hsz]; omega), List.getElem?_eq_none (by rw [stepsI_length, List.length_replicate]; omega)]
/-- A cell of an own row, set. -/
theorem own_set {w : World} {B n m size r : Nat} {e : TypeId} {g cap : Nat} {xs : List Value} (h : w.ownsRow B e size (.slice (some ⟨g, 0, none⟩) n cap) n xs) (hl : xs.length = m) (hr : r < m) (y : Value) :
    w.frozen? ⟨g, r, none⟩ = false ∧ (∃ u, w.cell? ⟨g, r, none⟩ = some u) ∧ (w.setCell ⟨g, r, none⟩ y).ownsRow B e size (.slice (some ⟨g, 0, none⟩) n cap) n (xs.set r y) ∧ Chg (fun b => B ≤ b) w (w.setCell ⟨g, r, none⟩ y) := by
  rcases h.2 with ⟨h1, _⟩ | ⟨g', cap', cur, h1, hg0, hg, hnc, hcm, hcs, htk⟩
  · cases h1
  · cases h1
    have hb : Blk w g cur e := hg
    have hlen := h.1
    have hsz : r < cur.size := by
      have h5 : n * size ≤ cap * size := Nat.mul_le_mul_right size hnc
      rw [hcs]; omega
    refine ⟨hb.frozen r, ⟨cur[r], hb.cell r _ (Array.getElem?_eq_getElem hsz)⟩, ⟨by rw [List.length_set]; exact h.1, .inr ⟨g, cap, cur.setIfInBounds r y, rfl, hg0, hb.set r y, hnc, hcm, by rw [Array.size_setIfInBounds]; exact hcs, ?_⟩⟩, Chg.setCell (Chg.refl w) _ _ (fun _ => hg0)⟩
    rw [← htk]
    simp [List.take_set]
/-- A cert that may be, written, read, and told to be the same. -/
theorem trip {w : World} {c : Crt} {a1 a2 a3 : Option Addr} {p1 p2 p3 : Nat} {us : List Value} (h : CrtV w c a1 p1 a2 p2 a3 p3 us) (h0 : codeC c = 0) (h32 : ∀ d ∈ c.claim.w, d < 4294967296) (hx : c.claim.x < 18446744073709551616) :
    Calls Try.prog 10 #[crtV c a1 p1 a2 p2 a3 p3] w fun e w' => Ext w w' ∧ ∃ g n cap, e = .returned (.tuple #[.slice (some ⟨g, 0, none⟩) n cap, .int .i64 0]) ∧
      ∀ W, Ext w' W → Calls Try.prog 9 #[.slice (some ⟨g, 0, none⟩) n cap] W fun e W' => Ext W W' ∧ ∃ b1 q1 b2 q2 b3 q3, e = .returned (.tuple #[crtV (normC c) b1 q1 b2 q2 b3 q3, .int .i64 0]) ∧
        ∀ W2, Ext W' W2 → Calls Try.prog 17 #[crtV (normC c) b1 q1 b2 q2 b3 q3, crtV c a1 p1 a2 p2 a3 p3] W2 fun e W3 => e = .returned (.bool true) ∧ Ext W2 W3 := by
  refine (enc_any h hx h32).mono ?_
  rintro e w1 ⟨hx1, hw⟩
  refine ⟨hx1, ?_⟩
  rcases hw with ⟨-, v, rfl, hown⟩ | ⟨hne, -⟩
  case inr => exact absurd h0 hne
  have hlen := eCrt_six c h0
  have hle := eCrt_le h0
  obtain ⟨g, cap, rfl, -⟩ := own_form hown (by omega)
  refine ⟨g, _, cap, rfl, fun W hW => ?_⟩
  have hcl := (Cells.of_own hown).chg (S := fun _ => False) hW (fun _ _ h => h)
  refine (dec_yes hcl (eCrt_byte h0) (by omega) (back_read h0 h32 hx).1).mono ?_
  rintro e W' ⟨hx2, b1, q1, b2, q2, b3, q3, vs, rfl, hcv⟩
  refine ⟨hx2, b1, q1, b2, q2, b3, q3, rfl, fun W2 hW2 => ?_⟩
  have hmv := (code_zero (code_parts h0).2).1
  exact sameC_eq (hcv.ext hW2) (h.ext (((hx1.trans hW).trans hx2).trans hW2)) (norm_fits hx) hx ((mayV_norm c.claim).trans hmv) hmv (likeV_norm c.claim) rfl rfl rfl
/-- What is asked of a cert like that. -/
def okP (n m k : Nat) (t node : Int) : Prop := n ≤ 5 ∧ m ≤ 6 ∧ (n = 0 ∨ 1 ≤ node ∧ node ≤ 1000) ∧ (m = 0 ∨ k ≤ 2000 ∧ (k = 0 ∨ 1 ≤ t ∧ t ≤ 1099511627776))
def wls (t : Int) (k : Nat) : Nat → List (List (Int × Bool))
  | 0 => []
  | m + 1 => List.replicate k (t, false) :: List.replicate m []
def limC (n m k : Nat) (t node : Int) : Crt := ⟨0, List.replicate n node, wls t k m, ⟨2, false, [], 0, 0⟩⟩
theorem wls_length (t : Int) (k m : Nat) : (wls t k m).length = m := by
  cases m <;> simp [wls]
theorem lim_code (n m k : Nat) (t node : Int) : (okP n m k t node → codeC (limC n m k t node) = 0) ∧ (¬ okP n m k t node → codeC (limC n m k t node) = 16) := by
  have hv : codeV (limC n m k t node).claim = 0 := by show codeV ⟨2, false, [], 0, 0⟩ = 0; decide
  have hm : mayC (limC n m k t node) = true ↔ okP n m k t node := by
    rw [mayC_eq, Bool.and_eq_true, Bool.and_eq_true, decide_eq_true_eq, List.all_eq_true, List.all_eq_true]
    simp only [limC, List.length_replicate, wls_length]
    constructor
    · rintro ⟨⟨⟨-, -, h1, h2⟩, h3⟩, h4⟩
      refine ⟨h1, h2, ?_, ?_⟩
      · rcases Nat.eq_zero_or_pos n with h | h
        · exact .inl h
        · have := h3 node (List.mem_replicate.2 ⟨by omega, rfl⟩)
          unfold okN at this
          exact .inr (by simpa using this)
      · cases m with
        | zero => exact .inl rfl
        | succ m =>
          have h5 := h4 (List.replicate k (t, false)) (by simp [wls])
          unfold okW at h5
          simp only [Bool.and_eq_true, decide_eq_true_eq, List.length_replicate, List.all_eq_true] at h5
          refine .inr ⟨h5.1, ?_⟩
          rcases Nat.eq_zero_or_pos k with h | h
          · exact .inl h
          · have := h5.2 (t, false) (List.mem_replicate.2 ⟨by omega, rfl⟩)
            unfold okS at this
            exact .inr (by simpa using this)
    · rintro ⟨h1, h2, h3, h4⟩
      refine ⟨⟨⟨by omega, by omega, h1, h2⟩, fun z hz => ?_⟩, fun l hl => ?_⟩
      · obtain ⟨h5, rfl⟩ := List.mem_replicate.1 hz
        unfold okN
        simp only [decide_eq_true_eq]
        rcases h3 with h3 | h3
        · exact absurd h3 h5
        · exact h3
      · cases m with
        | zero => simp [wls] at hl
        | succ m =>
          rcases h4 with h4 | ⟨h4, h5⟩
          · omega
          · simp only [wls, List.mem_cons, List.mem_replicate] at hl
            rcases hl with rfl | ⟨-, rfl⟩
            · unfold okW
              simp only [Bool.and_eq_true, decide_eq_true_eq, List.length_replicate, List.all_eq_true]
              refine ⟨h4, fun s hs => ?_⟩
              obtain ⟨h6, rfl⟩ := List.mem_replicate.1 hs
              unfold okS
              simp only [decide_eq_true_eq]
              rcases h5 with h5 | h5
              · exact absurd h5 h6
              · exact h5
            · unfold okW
              simp
  constructor
  · intro h
    rw [codeC, if_pos (hm.2 h), hv]
  · intro h
    rw [codeC, if_neg (fun h2 => h (hm.1 h2))]
theorem wl3_rows {w : World} {g k : Nat} {t : Int} (h : Cells w (some ⟨g, 0, none⟩) k k (stepsI (List.replicate k (t, false)))) (m : Nat) : WalkRows w (wl3 (.slice (some ⟨g, 0, none⟩) k k) m) (wls t k m) := by
  cases m with
  | zero => trivial
  | succ m =>
    refine ⟨⟨_, _, by rw [List.length_replicate], by rw [List.length_replicate]; exact h⟩, ?_⟩
    induction m with
    | zero => trivial
    | succ m ih =>
      rw [List.replicate_succ, List.replicate_succ]
      exact ⟨⟨none, 0, rfl, Nat.le_refl _, by unfold maxLen; simp, fun j u hu => by simp [stepsI] at hu⟩, ih⟩
/-- What was built, as a cert. -/
theorem lim_crt {W : World} {B1 B2 B3 g n m k : Nat} {t node : Int} {v u : Value} (h1 : W.ownsRow B1 3 1 v n (List.replicate n (.int .i64 node))) (h2 : W.ownsRow B2 54 1 u m (wl3 (.slice (some ⟨g, 0, none⟩) k k) m)) (h3 : W.ownsRow B3 56 2 (.slice (some ⟨g, 0, none⟩) k k) k (stepsI (List.replicate k (t, false)))) :
    ∃ a1 p1 a2 p2, v = .slice a1 n p1 ∧ u = .slice a2 m p2 ∧ CrtV W (limC n m k t node) a1 p1 a2 p2 none 0 (wl3 (.slice (some ⟨g, 0, none⟩) k k) m) := by
  obtain ⟨a1, p1, rfl⟩ := own_slice h1
  obtain ⟨a2, p2, rfl⟩ := own_slice h2
  refine ⟨a1, p1, a2, p2, rfl, rfl, ⟨?_, ?_, wl3_rows (Cells.of_own h3) m, ⟨Nat.le_refl _, by unfold maxLen; omega, fun j u hu => by simp [limC, wordCells] at hu⟩⟩⟩
  · have := Cells.of_own h1
    simp only [limC, List.length_replicate, List.map_replicate]
    exact this
  · have := Cells.of_own h2
    simp only [limC, wls_length]
    exact this
end Go.Proofs.Ytnamcghcgcknpaa
