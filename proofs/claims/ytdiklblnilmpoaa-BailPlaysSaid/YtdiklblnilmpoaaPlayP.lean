/-
  The plain law behind BailPlays: what a tree of the law plays, in Lean's own words; how heavy it is.
-/
import Derived.KernelRfl
namespace Go.Proofs.Ytdiklblnilmpoaa.Pl

/-- A program of the law BailPlays. -/
inductive Tr where
  | node (kind code n : Int) (kids : List Tr)
/-- How it ends. -/
inductive En where
  | ret
  | bail (c a : Int)
  | num (n : Int)
/-- What was noted, and what is left. -/
structure St where
  notes : List Int
  left : Int
def zero : Tr := .node 0 0 0 []
def St.add (s : St) (l : List Int) : St := ⟨s.notes ++ l, s.left⟩
def use (n : Int) (s : St) : En × St :=
  if n < 0 then (.bail 1 n, s) else if s.left < n then (.bail 10 n, s) else (.ret, ⟨s.notes, s.left - n⟩)
def caught : En × St → En × St
  | (.ret, s) => (.ret, s.add [0, 0])
  | (.bail c a, s) => (.ret, s.add [c, a])
  | (.num n, s) => (.num n, s)
def onlyd (code : Int) : En × St → En × St
  | (.ret, s) => (.ret, s.add [0])
  | (.bail c a, s) => if c = code then (.ret, s.add [1]) else (.bail c a, s)
  | (.num n, s) => (.num n, s)
def safed : En × St → En × St
  | (.ret, s) => (.ret, s.add [-1])
  | (.bail c a, s) => (.ret, s.add [-2, c, a])
  | (.num n, s) => (.ret, s.add [-3, n])
/-- The end of one that is done behind another in any case. -/
def behind (e : En) : En × St → En × St
  | (.ret, s) => (e, s)
  | (f, s) => (f, s)
mutual
def play : Tr → St → En × St
  | .node kind code n kids, s =>
    if kind = 1 then (.bail code n, s)
    else if kind = 2 then (.num n, s)
    else if kind = 3 then playAll kids s
    else if kind = 4 then caught (playKid kids 0 s)
    else if kind = 5 then onlyd code (playKid kids 0 s)
    else if kind = 6 then behind (playKid kids 0 s).1 (playKid kids 1 (playKid kids 0 s).2)
    else if kind = 7 then safed (playKid kids 0 s)
    else if kind = 8 then (.ret, s.add [n])
    else if kind = 9 then use n s
    else (.ret, s)
def playAll : List Tr → St → En × St
  | [], s => (.ret, s)
  | t :: ts, s =>
    match play t s with
    | (.ret, s') => playAll ts s'
    | r => r
def playKid : List Tr → Nat → St → En × St
  | [], _, s => (.ret, s)
  | t :: _, 0, s => play t s
  | _ :: ts, k + 1, s => playKid ts k s
end
mutual
def cnt : Tr → Nat
  | .node _ _ _ kids => 1 + cntAll kids
def cntAll : List Tr → Nat
  | [] => 0
  | t :: ts => cnt t + cntAll ts
end
/-- The kid of that number; nothing, if there is none. -/
def kid (kids : List Tr) (k : Nat) : Tr := kids.getD k zero
theorem playAll_ret {t : Tr} {ts : List Tr} {s s' : St} (h : play t s = (.ret, s')) : playAll (t :: ts) s = playAll ts s' := by simp [playAll, h]
theorem playAll_bail {t : Tr} {ts : List Tr} {s s' : St} {c a : Int} (h : play t s = (.bail c a, s')) : playAll (t :: ts) s = (.bail c a, s') := by simp [playAll, h]
theorem playAll_num {t : Tr} {ts : List Tr} {s s' : St} {x : Int} (h : play t s = (.num x, s')) : playAll (t :: ts) s = (.num x, s') := by simp [playAll, h]
theorem play_zero (s : St) : play zero s = (.ret, s) := by simp [zero, play]
theorem playKid_eq (kids : List Tr) (k : Nat) (s : St) : playKid kids k s = play (kid kids k) s := by
  induction kids generalizing k with
  | nil => simp [playKid, kid, play_zero]
  | cons t ts ih =>
    cases k with
    | zero => simp [playKid, kid]
    | succ k => simp [playKid, kid] at *; exact ih k
theorem cnt_pos (t : Tr) : 1 ≤ cnt t := by cases t; simp [cnt]
theorem cntAll_get : ∀ (kids : List Tr) (k : Nat) (t : Tr), kids[k]? = some t → cnt t ≤ cntAll kids
  | [], k, t, h => by simp at h
  | x :: xs, 0, t, h => by simp at h; subst h; simp [cntAll]
  | x :: xs, k + 1, t, h => by simp at h; have := cntAll_get xs k t h; simp [cntAll]; omega
/-- Sum, of the package tansyalike, of two. -/
def sum2 (n m : Int) : Int := if 1099511627776 < n ∨ 1099511627776 - n < m then 1099511627776 else n + m
mutual
def wt : Tr → Nat → Int
  | .node _ _ _ kids, d => if 12 < d then 1073741824 else wtAll kids (d + 1) 1
def wtAll : List Tr → Nat → Int → Int
  | [], _, w => w
  | t :: ts, d, w => if w < 1000 then wtAll ts d (sum2 w (wt t d)) else w
end
theorem sum2_le (n m : Int) (_hn : 0 ≤ n) (hm : 1 ≤ m) : n + 1 ≤ sum2 n m ∨ 1099511627776 ≤ sum2 n m := by
  unfold sum2
  split
  · right; omega
  · left; omega
mutual
theorem wt_pos : ∀ (t : Tr) (d : Nat), 1 ≤ wt t d
  | .node _ _ _ kids, d => by
    simp only [wt]
    split
    · omega
    · have := wtAll_ge kids (d + 1) 1 (by omega)
      omega
theorem wtAll_ge : ∀ (ts : List Tr) (d : Nat) (w : Int), 0 ≤ w → w ≤ wtAll ts d w ∨ 1000 ≤ wtAll ts d w
  | [], d, w, _ => by simp [wtAll]
  | t :: ts, d, w, hw => by
    simp only [wtAll]
    split
    · have h1 := wt_pos t d
      have h2 := sum2_le w (wt t d) hw h1
      have h3 := wtAll_ge ts d (sum2 w (wt t d)) (by omega)
      omega
    · omega
end
theorem sum2_top (n m : Int) : sum2 n m ≤ 1099511627776 := by
  unfold sum2
  split <;> omega
mutual
theorem wt_le : ∀ (t : Tr) (d : Nat), wt t d ≤ 1099511627776
  | .node _ _ _ kids, d => by
    simp only [wt]
    split
    · omega
    · exact wtAll_le kids (d + 1) 1 (by omega)
theorem wtAll_le : ∀ (ts : List Tr) (d : Nat) (w : Int), w ≤ 1099511627776 → wtAll ts d w ≤ 1099511627776
  | [], d, w, h => by simpa [wtAll] using h
  | t :: ts, d, w, h => by
    simp only [wtAll]
    split
    · exact wtAll_le ts d _ (sum2_top _ _)
    · exact h
end
mutual
theorem wt_cnt : ∀ (t : Tr) (d : Nat), wt t d ≤ 200 → (cnt t : Int) ≤ wt t d
  | .node _ _ _ kids, d, h => by
    simp only [wt] at h ⊢
    split at h
    · omega
    · rename_i hd
      rw [if_neg hd]
      have := wtAll_cnt kids (d + 1) 1 (by omega) h
      simp only [cnt]
      omega
theorem wtAll_cnt : ∀ (ts : List Tr) (d : Nat) (w : Int), 0 ≤ w → wtAll ts d w ≤ 200 → w + (cntAll ts : Int) ≤ wtAll ts d w
  | [], d, w, _, _ => by simp [wtAll, cntAll]
  | t :: ts, d, w, hw, h => by
    simp only [wtAll] at h ⊢
    split at h
    · rename_i hlt
      rw [if_pos hlt]
      have h1 := wt_pos t d
      have h2 := sum2_le w (wt t d) hw h1
      have h3 := wtAll_ge ts d (sum2 w (wt t d)) (by omega)
      have h40 : ¬ (1099511627776 < w ∨ 1099511627776 - w < wt t d) := by
        intro hc
        have : sum2 w (wt t d) = 1099511627776 := if_pos hc
        omega
      have h4 : sum2 w (wt t d) = w + wt t d := if_neg h40
      rw [h4] at h ⊢
      have h5 := wtAll_cnt ts d (w + wt t d) (by omega) h
      have h6 := wt_cnt t d (by omega)
      simp only [cntAll]
      omega
    · omega
end
/-- What is noted at most; what is left. -/
def Fair (s : St) (k : Nat) (r : En × St) : Prop := r.2.notes.length ≤ s.notes.length + 3 * k ∧ r.2.left ≤ s.left ∧ (0 ≤ s.left → 0 ≤ r.2.left)
mutual
theorem play_fair : ∀ (t : Tr) (s : St), Fair s (cnt t) (play t s)
  | .node kind code n kids, s => by
    have h0 := playKid_fair kids 0 s
    have h1 := playKid_fair kids 1 (playKid kids 0 s).2
    have hA := playAll_fair kids s
    have hz : ∀ e : En, Fair s (cnt (.node kind code n kids)) (e, s) := fun e => ⟨by simp, by simp, fun h => h⟩
    simp only [play]
    split
    · exact hz _
    split
    · exact hz _
    split
    · obtain ⟨a, b, c⟩ := hA
      exact ⟨by simp only [cnt]; omega, b, c⟩
    split
    · obtain ⟨a, b, c⟩ := h0
      generalize playKid kids 0 s = r at *
      obtain ⟨e, s'⟩ := r
      cases e <;> simp only [caught, St.add, Fair, cnt, List.length_append, List.length_cons, List.length_nil] at * <;> exact ⟨by omega, b, c⟩
    split
    · obtain ⟨a, b, c⟩ := h0
      generalize playKid kids 0 s = r at *
      obtain ⟨e, s'⟩ := r
      cases e <;> simp only [onlyd, St.add, Fair, cnt] at *
      · simp only [List.length_append, List.length_cons, List.length_nil]; exact ⟨by omega, b, c⟩
      · split
        · simp only [List.length_append, List.length_cons, List.length_nil]; exact ⟨by omega, b, c⟩
        · exact ⟨by simp only; omega, b, c⟩
      · exact ⟨by omega, b, c⟩
    split
    · have hk := playKid_two kids s
      generalize playKid kids 0 s = r at *
      obtain ⟨e, s'⟩ := r
      simp only at *
      generalize playKid kids 1 s' = q at *
      obtain ⟨f, s''⟩ := q
      obtain ⟨a, b, c⟩ := h0
      obtain ⟨a', b', c'⟩ := h1
      cases f <;> simp only [behind, Fair, cnt] at * <;> exact ⟨by omega, by omega, fun h => c' (c h)⟩
    split
    · obtain ⟨a, b, c⟩ := h0
      generalize playKid kids 0 s = r at *
      obtain ⟨e, s'⟩ := r
      cases e <;> simp only [safed, St.add, Fair, cnt, List.length_append, List.length_cons, List.length_nil] at * <;> exact ⟨by omega, b, c⟩
    split
    · refine ⟨by simp [St.add, cnt]; omega, by simp [St.add], fun h => h⟩
    split
    · unfold use
      split
      · exact hz _
      split
      · exact hz _
      · refine ⟨by simp, by simp only; omega, fun h => by simp only; omega⟩
    · exact hz _
theorem playAll_fair : ∀ (ts : List Tr) (s : St), Fair s (cntAll ts) (playAll ts s)
  | [], s => ⟨by simp [playAll], by simp [playAll], fun h => by simpa [playAll] using h⟩
  | t :: ts, s => by
    have h := play_fair t s
    simp only [playAll]
    generalize play t s = r at *
    obtain ⟨e, s'⟩ := r
    obtain ⟨a, b, c⟩ := h
    cases e with
    | ret =>
      obtain ⟨a', b', c'⟩ := playAll_fair ts s'
      simp only at *
      exact ⟨by simp only [cntAll]; omega, by omega, fun h => c' (c h)⟩
    | bail x y => exact ⟨by simp only [cntAll] at *; omega, b, c⟩
    | num x => exact ⟨by simp only [cntAll] at *; omega, b, c⟩
theorem playKid_fair : ∀ (ts : List Tr) (k : Nat) (s : St), Fair s (cntAll ts) (playKid ts k s)
  | [], k, s => ⟨by simp [playKid], by simp [playKid], fun h => by simpa [playKid] using h⟩
  | t :: ts, 0, s => by
    obtain ⟨a, b, c⟩ := play_fair t s
    simp only [playKid]
    exact ⟨by simp only [cntAll]; omega, b, c⟩
  | t :: ts, k + 1, s => by
    obtain ⟨a, b, c⟩ := playKid_fair ts k s
    simp only [playKid]
    exact ⟨by simp only [cntAll]; omega, b, c⟩
theorem playKid_two : ∀ (ts : List Tr) (s : St), (playKid ts 1 (playKid ts 0 s).2).2.notes.length ≤ s.notes.length + 3 * cntAll ts
  | [], s => by simp [playKid]
  | [t], s => by
    obtain ⟨a, _⟩ := play_fair t s
    simp only [playKid, cntAll] at *
    omega
  | t :: u :: ts, s => by
    obtain ⟨a, _⟩ := play_fair t s
    obtain ⟨b, _⟩ := play_fair u (play t s).2
    simp only [playKid, cntAll] at *
    omega
end
end Go.Proofs.Ytdiklblnilmpoaa.Pl
