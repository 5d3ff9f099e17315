/- The chapter's functions, walked by the abstract machine: plain lemmas, no condition. -/
import Derived.Test.YtjbiefneffiogaaGreatM4
set_option linter.unusedSectionVars false
set_option linter.unusedSimpArgs false
set_option linter.unusedVariables false

namespace Go.Proofs.YtjbiefneffiogaaGreat
structure At where
  k : Int
  n : Int
  s : List UInt8
  deriving DecidableEq
inductive Co where
  | mk (k x n : Int) (s : List UInt8) (a : List At) (t : List Int) (l : List Co)
namespace Co
def k : Co → Int | mk k _ _ _ _ _ _ => k
def x : Co → Int | mk _ x _ _ _ _ _ => x
def n : Co → Int | mk _ _ n _ _ _ _ => n
def s : Co → List UInt8 | mk _ _ _ s _ _ _ => s
def a : Co → List At | mk _ _ _ _ a _ _ => a
def t : Co → List Int | mk _ _ _ _ _ t _ => t
def l : Co → List Co | mk _ _ _ _ _ _ l => l
end Co
mutual
def size : Co → Nat
  | .mk _ _ _ _ _ _ l => 1 + sizes l
def sizes : List Co → Nat
  | [] => 0
  | c :: cs => size c + sizes cs
end
theorem size_pos (c : Co) : 1 ≤ size c := by cases c; simp only [size]; omega
theorem size_mem : ∀ {l : List Co} {c : Co}, c ∈ l → size c ≤ sizes l
  | [], _, h => by cases h
  | d :: l, c, h => by
    simp only [sizes]
    rcases List.mem_cons.1 h with rfl | h
    · omega
    · have := size_mem h; omega
def varB (n : Int) : Bool := decide (0 ≤ n) && decide (n ≤ 1048575)
def numB (n : Int) : Bool := decide (-1073741824 ≤ n) && decide (n ≤ 1073741823)
def atB (a : At) : Bool :=
  if a.k = 1 then varB a.n && decide (a.s = []) else if a.k = 2 then numB a.n && decide (a.s = []) else if a.k = 3 then decide (a.n = 0) && decide (a.s.length ≤ 4096) else false
def prims2 : List (List UInt8) := [[97, 100, 100], [115, 117, 98], [109, 117, 108], [100, 105, 118], [109, 111, 100], [101, 113], [108, 116], [108, 101], [98, 121, 116, 101], [106, 111, 105, 110], [115, 101, 116]]
def prims1 : List (List UInt8) := [[110, 101, 103], [103, 101, 116, 99], [112, 117, 116, 99], [112, 117, 116, 115], [115, 105, 122, 101], [99, 104, 114]]
def takes (s : List UInt8) : Int := if s ∈ prims2 then 2 else if s ∈ prims1 then 1 else if s = [99, 117, 116] then 3 else 0
def diff : List Int → Bool
  | [] => true
  | a :: l => !l.contains a && diff l
def tagsB (nums : Bool) (l : List Int) : Bool := l.all (fun n => if nums then numB n else varB n) && diff l
structure Ru where
  x : Bool
  n : Bool
  s : Bool
  tags : Bool
  a0 : Int
  a1 : Int
  l0 : Int
  l1 : Int
  deriving DecidableEq
def Ru.none : Ru := ⟨false, false, false, false, 0, 0, 0, 0⟩
def rulesM (k : Int) : Option Ru :=
  if k = 1 then some ⟨false, false, false, false, 1, 1, 0, 0⟩
  else if k = 2 then some ⟨true, false, false, false, 0, 0, 2, 2⟩
  else if k = 3 then some ⟨false, false, true, false, 1, 3, 0, 0⟩
  else if k = 4 then some ⟨false, true, false, false, 0, 1024, 0, 0⟩
  else if k = 5 then some ⟨false, true, false, false, 1, 1, 0, 0⟩
  else if k = 6 then some ⟨false, false, false, false, 2, 2, 0, 0⟩
  else if k = 7 then some ⟨true, false, false, false, 0, 0, 1, 1⟩
  else if k = 9 then some ⟨false, false, false, true, 1, 1, 1, 1073741824⟩
  else if k = 10 then some ⟨false, false, false, true, 1, 1, 1, 1073741824⟩
  else if k = 11 then some ⟨true, false, false, false, 0, 0, 2, 2⟩
  else if k = 12 then some ⟨false, false, false, false, 1, 1, 0, 0⟩
  else none
def withinI (n a b : Int) : Bool := decide (a ≤ n) && decide (n ≤ b)
def taggedP (c : Co) : Bool := tagsB (decide (c.k = 10)) c.t && (decide ((c.l.length : Int) = c.t.length) || decide ((c.l.length : Int) = c.t.length + 1))
def ownP (named : Bool) (c : Co) : Bool :=
  match rulesM c.k with
  | none => false
  | some r =>
    varB c.x && (r.x || decide (c.x = 0)) && (r.n || named || decide (c.n = 0)) && (r.s || decide (c.s = [])) && (r.tags || decide (c.t = [])) &&
    (withinI c.a.length r.a0 r.a1 && withinI c.l.length r.l0 r.l1 && varB c.n) &&
    (!(decide (c.k = 5) && decide (1024 ≤ c.n)) && !(decide (c.k = 3) && !decide (takes c.s = c.a.length)) && (!r.tags || taggedP c)) && c.a.all atB
def hasB (c : Co) (x n s t : Bool) : Bool := (x || decide (c.x = 0)) && (n || decide (c.n = 0)) && (s || decide (c.s = [])) && (t || decide (c.t = []))
def atomsB (l : List At) (n : Int) : Bool := l.all atB && decide ((l.length : Int) = n)
def fitsR (c : Co) : Bool := decide (1 ≤ (c.l.length : Int)) && (decide ((c.l.length : Int) = c.t.length) || decide ((c.l.length : Int) = c.t.length + 1))
def OwnR (c : Co) : Bool :=
  if c.k = 1 ∨ c.k = 12 then hasB c false false false false && atomsB c.a 1 && decide (c.l.length = 0)
  else if c.k = 2 ∨ c.k = 11 then hasB c true false false false && varB c.x && decide (c.a.length = 0) && decide (c.l.length = 2)
  else if c.k = 3 then hasB c false false true false && decide (0 < takes c.s) && atomsB c.a (takes c.s) && decide (c.l.length = 0)
  else if c.k = 4 then hasB c false true false false && varB c.n && decide (c.a.length ≤ 1024) && atomsB c.a c.a.length && decide (c.l.length = 0)
  else if c.k = 5 then hasB c false true false false && decide (0 ≤ c.n) && decide (c.n < 1024) && atomsB c.a 1 && decide (c.l.length = 0)
  else if c.k = 6 then hasB c false false false false && atomsB c.a 2 && decide (c.l.length = 0)
  else if c.k = 9 ∨ c.k = 10 then hasB c false false false true && atomsB c.a 1 && tagsB (decide (c.k = 10)) c.t && fitsR c
  else false
def funR (c : Co) (own : Bool) : Bool := decide (c.k = 7) && hasB c true own false false && varB c.x && (!own || varB c.n) && decide (c.a.length = 0) && decide (c.l.length = 1)
def ownR (named : Bool) (c : Co) : Bool := if named then funR c true else OwnR c || funR c false
theorem takes_le (s : List UInt8) : 0 ≤ takes s ∧ takes s ≤ 3 := by
  unfold takes
  split
  · omega
  · split
    · omega
    · split <;> omega
theorem and_iff {a b : Bool} (h : a = true ↔ b = true) : a = b := Bool.eq_iff_iff.2 h
theorem own_same (c : Co) (hl : c.l.length ≤ 1073741824) (hk : c.k ≠ 8) : ownP false c = ownR false c := by
  obtain ⟨k, x, n, s, a, t, l⟩ := c
  simp only [Co.l, Co.k] at hl hk
  have ht := takes_le s
  have v0 : varB 0 = true := by decide
  have hvn : (varB n = true) ↔ (0 ≤ n ∧ n ≤ 1048575) := by simp [varB]
  apply and_iff
  simp only [ownP, ownR, OwnR, funR, Co.k, Co.x, Co.n, Co.s, Co.a, Co.t, Co.l, hasB, atomsB, withinI, fitsR, taggedP]
  by_cases h1 : k = 1
  · subst h1
    simp only [rulesM, if_pos, Bool.and_eq_true, Bool.or_eq_true, decide_eq_true_eq, Bool.not_eq_true', Bool.and_eq_false_iff, decide_eq_false_iff_not]
    grind
  by_cases h2 : k = 2
  · subst h2
    simp only [rulesM, if_pos, Bool.and_eq_true, Bool.or_eq_true, decide_eq_true_eq, Bool.not_eq_true', Bool.and_eq_false_iff, decide_eq_false_iff_not]
    grind
  by_cases h3 : k = 3
  · subst h3
    simp only [rulesM, if_pos, Bool.and_eq_true, Bool.or_eq_true, decide_eq_true_eq, Bool.not_eq_true', Bool.and_eq_false_iff, decide_eq_false_iff_not]
    grind
  by_cases h4 : k = 4
  · subst h4
    simp only [rulesM, if_pos, Bool.and_eq_true, Bool.or_eq_true, decide_eq_true_eq, Bool.not_eq_true', Bool.and_eq_false_iff, decide_eq_false_iff_not]
    grind
  by_cases h5 : k = 5
  · subst h5
    simp only [rulesM, if_pos, Bool.and_eq_true, Bool.or_eq_true, decide_eq_true_eq, Bool.not_eq_true', Bool.and_eq_false_iff, decide_eq_false_iff_not]
    grind
  by_cases h6 : k = 6
  · subst h6
    simp only [rulesM, if_pos, Bool.and_eq_true, Bool.or_eq_true, decide_eq_true_eq, Bool.not_eq_true', Bool.and_eq_false_iff, decide_eq_false_iff_not]
    grind
  by_cases h7 : k = 7
  · subst h7
    simp only [rulesM, if_pos, Bool.and_eq_true, Bool.or_eq_true, decide_eq_true_eq, Bool.not_eq_true', Bool.and_eq_false_iff, decide_eq_false_iff_not]
    grind
  by_cases h9 : k = 9
  · subst h9
    simp only [rulesM, if_pos, Bool.and_eq_true, Bool.or_eq_true, decide_eq_true_eq, Bool.not_eq_true', Bool.and_eq_false_iff, decide_eq_false_iff_not]
    grind
  by_cases h10 : k = 10
  · subst h10
    simp only [rulesM, if_pos, Bool.and_eq_true, Bool.or_eq_true, decide_eq_true_eq, Bool.not_eq_true', Bool.and_eq_false_iff, decide_eq_false_iff_not]
    grind
  by_cases h11 : k = 11
  · subst h11
    simp only [rulesM, if_pos, Bool.and_eq_true, Bool.or_eq_true, decide_eq_true_eq, Bool.not_eq_true', Bool.and_eq_false_iff, decide_eq_false_iff_not]
    grind
  by_cases h12 : k = 12
  · subst h12
    simp only [rulesM, if_pos, Bool.and_eq_true, Bool.or_eq_true, decide_eq_true_eq, Bool.not_eq_true', Bool.and_eq_false_iff, decide_eq_false_iff_not]
    grind
  simp only [rulesM, h1, h2, h3, h4, h5, h6, h7, h9, h10, h11, h12, if_false, false_or, or_false, decide_false, Bool.false_and, Bool.or_false]
  simp
theorem own_named (c : Co) : (decide (c.k = 7) && ownP true c) = ownR true c := by
  obtain ⟨k, x, n, s, a, t, l⟩ := c
  apply and_iff
  simp only [ownP, ownR, OwnR, funR, Co.k, Co.x, Co.n, Co.s, Co.a, Co.t, Co.l, hasB, atomsB, withinI, fitsR, taggedP]
  by_cases h7 : k = 7
  · subst h7
    simp only [rulesM, if_pos, Bool.and_eq_true, Bool.or_eq_true, decide_eq_true_eq, Bool.not_eq_true', Bool.and_eq_false_iff, decide_eq_false_iff_not]
    grind
  · simp only [h7, decide_false, Bool.false_and, if_true]
def bareB (c : Co) : Bool := decide (c.x = 0) && decide (c.n = 0) && decide (c.s = []) && decide (c.t = []) && decide (c.a = [])
mutual
def may (own : Bool → Co → Bool) : Co → Bool
  | .mk k x n s a t l => if k = 8 then bareB (.mk k x n s a t l) && decide (2 ≤ l.length) && mayRec own l else own false (.mk k x n s a t l) && mays own l
def mays (own : Bool → Co → Bool) : List Co → Bool
  | [] => true
  | c :: cs => may own c && mays own cs
def mayRec (own : Bool → Co → Bool) : List Co → Bool
  | [] => true
  | c :: cs => match cs with
    | [] => may own c
    | _ :: _ => (decide (c.k = 7) && own true c) && mayKid own c && mayRec own cs
def mayKid (own : Bool → Co → Bool) : Co → Bool
  | .mk _ _ _ _ _ _ l => mayHead own l
def mayHead (own : Bool → Co → Bool) : List Co → Bool
  | [] => false
  | c :: _ => may own c
end
mutual
def few (m : Nat) : Co → Prop
  | .mk _ _ _ _ _ _ l => l.length ≤ m ∧ fews m l
def fews (m : Nat) : List Co → Prop
  | [] => True
  | c :: cs => few m c ∧ fews m cs
end
theorem sizes_len : ∀ l : List Co, l.length ≤ sizes l
  | [] => by simp [sizes]
  | c :: l => by have := size_pos c; have := sizes_len l; simp only [sizes, List.length_cons]; omega
mutual
theorem may_same : ∀ (c : Co), few 1073741824 c → may ownP c = may (fun b c => ownR b c) c
  | .mk k x n s a t l, h => by
    simp only [may]
    by_cases hk : k = 8
    · rw [if_pos hk, if_pos hk, mayRec_same l h.2]
    · rw [if_neg hk, if_neg hk, own_same (.mk k x n s a t l) h.1 hk, mays_same l h.2]
theorem mays_same : ∀ (l : List Co), fews 1073741824 l → mays ownP l = mays (fun b c => ownR b c) l
  | [], _ => rfl
  | c :: cs, h => by simp only [mays, may_same c h.1, mays_same cs h.2]
theorem mayRec_same : ∀ (l : List Co), fews 1073741824 l → mayRec ownP l = mayRec (fun b c => ownR b c) l
  | [], _ => rfl
  | [c], h => by simp only [mayRec, may_same c h.1]
  | c :: d :: cs, h => by
    have h7 : (decide (c.k = 7) && ownP true c) = (decide (c.k = 7) && ownR true c) := by
      rw [own_named c]
      by_cases q : c.k = 7
      · rw [decide_eq_true q, Bool.true_and]
      · have : ownR true c = false := by simp [ownR, funR, q]
        rw [this, Bool.and_false]
    have hr : mayRec ownP (d :: cs) = mayRec (fun b c => ownR b c) (d :: cs) := mayRec_same (d :: cs) h.2
    simp only [mayRec] at hr ⊢
    rw [h7, mayKid_same c h.1, hr]
theorem mayKid_same : ∀ (c : Co), few 1073741824 c → mayKid ownP c = mayKid (fun b c => ownR b c) c
  | .mk k x n s a t l, h => by simp only [mayKid, mayHead_same l h.2]
theorem mayHead_same : ∀ (l : List Co), fews 1073741824 l → mayHead ownP l = mayHead (fun b c => ownR b c) l
  | [], _ => rfl
  | c :: cs, h => by simp only [mayHead, may_same c h.1]
end
end Go.Proofs.YtjbiefneffiogaaGreat

namespace Go.Proofs.YtjbiefneffiogaaGreat
def ins (x : Int) : List Int → List Int
  | [] => [x]
  | y :: l => if y < x then y :: ins x l else if y = x then y :: l else x :: y :: l
def rising (l : List Int) : List Int := l.foldl (fun o x => ins x o) []
theorem mem_ins {x z : Int} : ∀ {l : List Int}, z ∈ ins x l ↔ z = x ∨ z ∈ l
  | [] => by simp [ins]
  | y :: l => by
    simp only [ins]
    split
    · simp only [List.mem_cons, mem_ins (l := l)]; grind
    · split
      · simp only [List.mem_cons]; grind
      · simp only [List.mem_cons]
theorem ins_sorted {x : Int} : ∀ {l : List Int}, l.Pairwise (· < ·) → (ins x l).Pairwise (· < ·)
  | [], _ => by simp [ins]
  | y :: l, h => by
    obtain ⟨h1, h2⟩ := List.pairwise_cons.1 h
    simp only [ins]
    split
    · refine List.pairwise_cons.2 ⟨fun z hz => ?_, ins_sorted h2⟩
      rcases mem_ins.1 hz with rfl | hz
      · assumption
      · exact h1 z hz
    · split
      · exact h
      · refine List.pairwise_cons.2 ⟨fun z hz => ?_, h⟩
        rcases List.mem_cons.1 hz with rfl | hz
        · omega
        · have := h1 z hz; omega
theorem foldl_ins : ∀ (l o : List Int), o.Pairwise (· < ·) → (l.foldl (fun o x => ins x o) o).Pairwise (· < ·) ∧ ∀ z, z ∈ l.foldl (fun o x => ins x o) o ↔ z ∈ o ∨ z ∈ l
  | [], o, h => ⟨h, fun z => by simp⟩
  | x :: l, o, h => by
    obtain ⟨h1, h2⟩ := foldl_ins l (ins x o) (ins_sorted h)
    refine ⟨h1, fun z => ?_⟩
    rw [List.foldl_cons, h2 z, mem_ins, List.mem_cons]
    grind
theorem rising_sorted (l : List Int) : (rising l).Pairwise (· < ·) := (foldl_ins l [] List.Pairwise.nil).1
theorem mem_rising {l : List Int} {z : Int} : z ∈ rising l ↔ z ∈ l := by simpa [rising] using (foldl_ins l [] List.Pairwise.nil).2 z
theorem sorted_unique : ∀ {a b : List Int}, a.Pairwise (· < ·) → b.Pairwise (· < ·) → (∀ z, z ∈ a ↔ z ∈ b) → a = b
  | [], [], _, _, _ => rfl
  | [], y :: b, _, _, h => by have := (h y).2 (by simp); simp at this
  | x :: a, [], _, _, h => by have := (h x).1 (by simp); simp at this
  | x :: a, y :: b, ha, hb, h => by
    obtain ⟨a1, a2⟩ := List.pairwise_cons.1 ha
    obtain ⟨b1, b2⟩ := List.pairwise_cons.1 hb
    have hxy : x = y := by
      have q1 := (h x).1 (by simp)
      have q2 := (h y).2 (by simp)
      rcases List.mem_cons.1 q1 with e | q1
      · exact e
      · rcases List.mem_cons.1 q2 with e | q2
        · exact e.symm
        · have := b1 x q1; have := a1 y q2; omega
    subst hxy
    congr 1
    refine sorted_unique a2 b2 fun z => ?_
    have := h z
    simp only [List.mem_cons] at this
    constructor
    · intro hz
      have hlt := a1 z hz
      rcases this.1 (.inr hz) with e | q
      · omega
      · exact q
    · intro hz
      have hlt := b1 z hz
      rcases this.2 (.inr hz) with e | q
      · omega
      · exact q
def compactF (x : Int) : List Int → List Int
  | [] => []
  | y :: l => if y = x then compactF x l else y :: compactF y l
def compact : List Int → List Int
  | [] => []
  | x :: l => x :: compactF x l
theorem compactF_ok : ∀ (l : List Int) (x : Int), (x :: l).Pairwise (· ≤ ·) → (x :: compactF x l).Pairwise (· < ·) ∧ ∀ z, z ∈ x :: compactF x l ↔ z ∈ x :: l
  | [], x, _ => ⟨by simp [compactF], fun z => by simp [compactF]⟩
  | y :: l, x, h => by
    obtain ⟨h1, h2⟩ := List.pairwise_cons.1 h
    simp only [compactF]
    by_cases e : y = x
    · rw [if_pos e]
      subst e
      obtain ⟨g1, g2⟩ := compactF_ok l y h2
      exact ⟨g1, fun z => by rw [g2 z]; simp⟩
    · rw [if_neg e]
      obtain ⟨g1, g2⟩ := compactF_ok l y h2
      have hxy : x < y := by have := h1 y (by simp); omega
      refine ⟨List.pairwise_cons.2 ⟨fun z hz => ?_, g1⟩, fun z => by rw [List.mem_cons, g2 z, List.mem_cons (a := z) (b := x)]⟩
      rw [g2 z] at hz
      rcases List.mem_cons.1 hz with rfl | hz
      · exact hxy
      · have := (List.pairwise_cons.1 h2).1 z hz; omega
theorem compact_sorted {l m : List Int} (h : m.Pairwise (· ≤ ·)) (hp : m.Perm l) : compact m = rising l := by
  cases m with
  | nil => have := hp.nil_eq; subst this; rfl
  | cons x m =>
    obtain ⟨h1, h2⟩ := compactF_ok m x h
    exact sorted_unique h1 (rising_sorted l) fun z => by rw [show z ∈ compact (x :: m) ↔ z ∈ x :: m from h2 z, mem_rising, hp.mem_iff]
theorem sorted_rising {l m ks : List Int} (h : m.Pairwise (· ≤ ·)) (hp : m.Perm ks) (hn : ks.Nodup) (hm : ∀ z, z ∈ ks ↔ z ∈ l) : m = rising l := by
  have hnm : m.Nodup := hp.symm.nodup hn
  have hlt : m.Pairwise (· < ·) := by
    have := h.and hnm
    exact this.imp fun q => by omega
  exact sorted_unique hlt (rising_sorted l) fun z => by rw [hp.mem_iff, hm z, mem_rising]
def lateB (k : Int) : Bool := decide (k = 2) || decide (k = 11)
def ownNames (k x : Int) (l : List Co) : List Int := if k = 7 then [x] else if k = 8 then l.dropLast.map Co.n else []
mutual
def order : Co → List Int
  | .mk k x n s a t l => ownNames k x l ++ orders (lateB k) x l 0
def orders (late : Bool) (x : Int) : List Co → Nat → List Int
  | [], _ => []
  | c :: cs, i => (if late && i == 1 then [x] else []) ++ order c ++ orders late x cs (i + 1)
end
def usedA (b : List Int) (a : List At) : List Int := (a.filter fun q => decide (q.k = 1) && !b.contains q.n).map At.n
mutual
def free : Co → List Int → List Int
  | .mk k x n s a t l, b => usedA b a ++ frees (lateB k) x l (b ++ ownNames k x l) 0
def frees (late : Bool) (x : Int) : List Co → List Int → Nat → List Int
  | [], _, _ => []
  | c :: cs, b, i => free c (if late && i == 1 then b ++ [x] else b) ++ frees late x cs b (i + 1)
end
mutual
def okC : Co → Prop
  | .mk k x n s a t l => (k = 8 → 1 ≤ l.length) ∧ k ≠ 14 ∧ (lateB k = true → l.length = 2) ∧ oks l
def oks : List Co → Prop
  | [] => True
  | c :: cs => okC c ∧ oks cs
end
theorem ownR_kind {b : Bool} {c : Co} (h : ownR b c = true) : c.k ≠ 14 ∧ (lateB c.k = true → c.l.length = 2) := by
  obtain ⟨k, x, n, s, a, t, l⟩ := c
  cases b with
  | true =>
    simp only [ownR, if_true, funR, Bool.and_eq_true] at h
    have h7 : k = 7 := of_decide_eq_true h.1.1.1.1.1
    subst h7
    exact ⟨by simp [Co.k], fun q => by simp [lateB, Co.k] at q⟩
  | false =>
    simp only [ownR, funR, OwnR, Co.k, Co.l, lateB] at h ⊢
    grind
mutual
theorem ok_of_may : ∀ (c : Co), may (fun b c => ownR b c) c = true → okC c
  | .mk k x n s a t l, h => by
    simp only [may] at h
    by_cases hk : k = 8
    · rw [if_pos hk] at h
      simp only [Bool.and_eq_true, decide_eq_true_eq] at h
      refine ⟨fun _ => by omega, by omega, fun q => by subst hk; simp [lateB] at q, oks_of_rec l h.2⟩
    · rw [if_neg hk] at h
      simp only [Bool.and_eq_true] at h
      obtain ⟨q1, q2⟩ := ownR_kind h.1
      exact ⟨fun e => absurd e hk, q1, q2, oks_of_mays l h.2⟩
theorem oks_of_mays : ∀ (l : List Co), mays (fun b c => ownR b c) l = true → oks l
  | [], _ => trivial
  | c :: cs, h => by
    simp only [mays, Bool.and_eq_true] at h
    exact ⟨ok_of_may c h.1, oks_of_mays cs h.2⟩
theorem oks_of_rec : ∀ (l : List Co), mayRec (fun b c => ownR b c) l = true → oks l
  | [], _ => trivial
  | [c], h => by
    simp only [mayRec] at h
    exact ⟨ok_of_may c h, trivial⟩
  | c :: d :: cs, h => by
    have h' : ((decide (c.k = 7) && ownR true c) && mayKid (fun b c => ownR b c) c && mayRec (fun b c => ownR b c) (d :: cs)) = true := by simpa only [mayRec] using h
    simp only [Bool.and_eq_true, decide_eq_true_eq] at h'
    exact ⟨ok_of_kid c h'.1.1.1 h'.1.1.2 h'.1.2, oks_of_rec (d :: cs) h'.2⟩
theorem ok_of_kid : ∀ (c : Co), c.k = 7 → ownR true c = true → mayKid (fun b c => ownR b c) c = true → okC c
  | .mk k x n s a t l, h7, ho, h => by
    simp only [Co.k] at h7
    subst h7
    simp only [ownR, if_true, funR, Bool.and_eq_true] at ho
    have h1 : l.length = 1 := of_decide_eq_true ho.2
    exact ⟨fun e => by omega, by decide, fun q => by simp [lateB] at q, oks_of_head l h1 (by simpa only [mayKid] using h)⟩
theorem oks_of_head : ∀ (l : List Co), l.length = 1 → mayHead (fun b c => ownR b c) l = true → oks l
  | [c], _, h => ⟨ok_of_may c (by simpa only [mayHead] using h), trivial⟩
  | [], hl, _ => by simp at hl
  | _ :: _ :: _, hl, _ => by simp at hl
end
end Go.Proofs.YtjbiefneffiogaaGreat

namespace Go.Proofs.YtjbiefneffiogaaGreat
abbrev En := List (Int × Nat)
inductive PV where
  | int (n : Int)
  | text (s : List UInt8)
  | fn (x : Int) (c : Co) (e : En)
  | thing (t : Int) (fs : List Nat)
structure Wt where
  try_ : Bool
  x : Int
  c : Co
  e : En
structure St where
  c : Co
  e : En
  w : List Wt
  st : List PV
  out : List UInt8
  read : Nat
  over : Bool
  en : Int
  exn : Int
def seek : En → Int → Nat
  | [], _ => 0
  | (m, j) :: L, n => if m = n then j else seek L n
def wr (n : Int) : Int := (n + 1073741824) % 2147483648 - 1073741824
namespace St
def val (S : St) (j : Nat) : PV := S.st.getD j (.int 0)
def mk_ (S : St) (v : PV) : St := { S with st := S.st ++ [v] }
def ends (S : St) (how : Int) : St := { S with over := true, en := how }
def goes (S : St) (a : Wt) (w : List Wt) (j : Nat) : St := { S with w := w, c := a.c, e := (a.x, j) :: a.e }
def tellsL (S : St) (j : Nat) : List Wt → St
  | [] => { S with w := [] }.ends 0
  | a :: w => if a.try_ then tellsL S j w else S.goes a w j
def tells (S : St) (j : Nat) : St := S.tellsL j S.w
def raisesL (S : St) (j : Nat) : List Wt → St
  | [] => match S.val j with
    | .thing t _ => { ({ S with w := [] }.ends 1) with exn := t }
    | _ => { S with w := [] }.ends 6
  | a :: w => if a.try_ then S.goes a w j else raisesL S j w
def raises (S : St) (j : Nat) : St := S.raisesL j S.w
def tellsV (S : St) (v : PV) : St := (S.mk_ v).tells S.st.length
def raisesV (S : St) (v : PV) : St := (S.mk_ v).raises S.st.length
def trap (S : St) : St := S.ends 6
def intOf : PV → Option Int
  | .int n => some n
  | _ => none
def textOf : PV → Option (List UInt8)
  | .text s => some s
  | _ => none
def truthV (b : Bool) : PV := .thing (if b then 1 else 0) []
def num2 (S : St) (js : List Nat) (k : Int → Int → St) : St :=
  match S.val (js.getD 0 0), S.val (js.getD 1 0) with
  | .int a, .int b => k a b
  | _, _ => S.trap
def num1 (S : St) (js : List Nat) (k : Int → St) : St :=
  match S.val (js.getD 0 0) with
  | .int a => k a
  | _ => S.trap
def text1 (S : St) (js : List Nat) (k : List UInt8 → St) : St :=
  match S.val (js.getD 0 0) with
  | .text a => k a
  | _ => S.trap
def byteAt (S : St) (js : List Nat) : St :=
  match S.val (js.getD 0 0), S.val (js.getD 1 0) with
  | .text s, .int i => if 0 ≤ i ∧ i < (s.length : Int) then S.tellsV (.int (((s[i.toNat]?).getD 0).toNat : Int)) else S.raisesV (.thing 2 [])
  | _, _ => S.trap
def cut (S : St) (js : List Nat) : St :=
  match S.val (js.getD 0 0), S.val (js.getD 1 0), S.val (js.getD 2 0) with
  | .text s, .int a, .int n => if 0 ≤ a ∧ 0 ≤ n ∧ a + n ≤ (s.length : Int) then S.tellsV (.text ((s.drop a.toNat).take n.toNat)) else S.raisesV (.thing 2 [])
  | _, _, _ => S.trap
def join (S : St) (js : List Nat) : St :=
  match S.val (js.getD 0 0), S.val (js.getD 1 0) with
  | .text s, .text t => if s.length + t.length ≤ 4096 then S.tellsV (.text (s ++ t)) else S.raisesV (.thing 2 [])
  | _, _ => S.trap
def set_ (S : St) (js : List Nat) : St :=
  match S.val (js.getD 0 0) with
  | .thing t fs => if t = 0 ∧ fs.length = 1 then { S with st := S.st.set (js.getD 0 0) (.thing 0 [js.getD 1 0]) }.tellsV (.thing 0 []) else S.trap
  | _ => S.trap
def getc (S : St) (inp : List UInt8) : St :=
  if inp.length ≤ S.read then S.tellsV (.int (-1)) else { S with read := S.read + 1 }.tellsV (.int (((inp[S.read]?).getD 0).toNat : Int))
def byteOf (n : Int) : UInt8 := UInt8.ofNat (n % 256).toNat
def prim (S : St) (inp : List UInt8) (s : List UInt8) (js : List Nat) : St :=
  if s = [97, 100, 100] then S.num2 js fun a b => S.tellsV (.int (wr (a + b)))
  else if s = [115, 117, 98] then S.num2 js fun a b => S.tellsV (.int (wr (a - b)))
  else if s = [109, 117, 108] then S.num2 js fun a b => S.tellsV (.int (wr (a * b)))
  else if s = [101, 113] then S.num2 js fun a b => S.tellsV (truthV (decide (a = b)))
  else if s = [108, 116] then S.num2 js fun a b => S.tellsV (truthV (decide (a < b)))
  else if s = [108, 101] then S.num2 js fun a b => S.tellsV (truthV (decide (a ≤ b)))
  else if s = [100, 105, 118] then S.num2 js fun a b => if b = 0 then S.raisesV (.thing 1 []) else S.tellsV (.int (wr (a.tdiv b)))
  else if s = [109, 111, 100] then S.num2 js fun a b => if b = 0 then S.raisesV (.thing 1 []) else S.tellsV (.int (wr (a.tmod b)))
  else if s = [110, 101, 103] then S.num1 js fun a => S.tellsV (.int (wr (-a)))
  else if s = [103, 101, 116, 99] then S.getc inp
  else if s = [112, 117, 116, 99] then S.num1 js fun a => { S with out := S.out ++ [byteOf a] }.tellsV (.thing 0 [])
  else if s = [112, 117, 116, 115] then S.text1 js fun t => { S with out := S.out ++ t }.tellsV (.thing 0 [])
  else if s = [115, 105, 122, 101] then S.text1 js fun t => S.tellsV (.int t.length)
  else if s = [99, 104, 114] then S.num1 js fun a => S.tellsV (.text [byteOf a])
  else if s = [98, 121, 116, 101] then S.byteAt js
  else if s = [99, 117, 116] then S.cut js
  else if s = [106, 111, 105, 110] then S.join js
  else if s = [115, 101, 116] then S.set_ js
  else S
def placeN : List Int → Int → Nat
  | [], _ => 0
  | t :: l, n => if t = n then 0 else placeN l n + 1
def goto_ (S : St) (at_ : Nat) : St :=
  match S.c.l[at_]? with
  | some d => { S with c := d }
  | none => S.trap
def chooses (S : St) (nums : Bool) (j : Nat) : St :=
  match S.val j with
  | .thing t _ => if nums then S.trap else S.goto_ (placeN S.c.t t)
  | .int n => if nums then S.goto_ (placeN S.c.t n) else S.trap
  | _ => S.trap
def recF (T : St) (f : Co) : St := { T.mk_ (.fn f.x (f.l.headD f) []) with e := (f.n, T.st.length) :: T.e }
def recMk (S : St) (l : List Co) : St := l.foldl recF S
def recSet (e : En) (at_ : Nat) (st : List PV) : List Co → List PV
  | [] => st
  | f :: l => recSet e (at_ + 1) (st.set at_ (.fn f.x (f.l.headD f) e)) l
def rec_ (S : St) : St :=
  let T := S.recMk S.c.l.dropLast
  { T with st := recSet T.e S.st.length T.st S.c.l.dropLast, c := S.c.l.getLastD S.c }
def call (S : St) (f v : Nat) : St :=
  match S.val f with
  | .fn x c e => { S with c := c, e := (x, v) :: e }
  | _ => S.trap
def get_ (S : St) (n : Int) (j : Nat) : St :=
  match S.val j with
  | .thing _ fs => if (fs.length : Int) ≤ n then S.trap else S.tells (fs.getD n.toNat 0)
  | _ => S.trap
def atom (S : St) (a : At) : St × Nat :=
  if a.k = 1 then (S, seek S.e a.n) else if a.k = 2 then (S.mk_ (.int a.n), S.st.length) else (S.mk_ (.text a.s), S.st.length)
def atomsF (p : St × List Nat) (a : At) : St × List Nat := ((p.1.atom a).1, p.2 ++ [(p.1.atom a).2])
def atoms (S : St) (l : List At) : St × List Nat := l.foldl atomsF (S, [])
def kid (S : St) (i : Nat) : Co := S.c.l.getD i S.c
def waits (S : St) : St := { S with w := ⟨decide (S.c.k = 11), S.c.x, S.kid 1, S.e⟩ :: S.w, c := S.kid 0 }
def does (S : St) (inp : List UInt8) (js : List Nat) : St :=
  if S.c.k = 1 then S.tells (js.getD 0 0)
  else if S.c.k = 2 ∨ S.c.k = 11 then S.waits
  else if S.c.k = 3 then S.prim inp S.c.s js
  else if S.c.k = 4 then S.tellsV (.thing S.c.n js)
  else if S.c.k = 5 then S.get_ S.c.n (js.getD 0 0)
  else if S.c.k = 6 then S.call (js.getD 0 0) (js.getD 1 0)
  else if S.c.k = 7 then S.tellsV (.fn S.c.x (S.kid 0) S.e)
  else if S.c.k = 8 then S.rec_
  else if S.c.k = 9 then S.chooses false (js.getD 0 0)
  else if S.c.k = 10 then S.chooses true (js.getD 0 0)
  else if S.c.k = 12 then S.raises (js.getD 0 0)
  else S
def step (S : St) (inp : List UInt8) : St := (S.atoms S.c.a).1.does inp (S.atoms S.c.a).2
def nth (S : St) (inp : List UInt8) : Nat → St
  | 0 => S
  | n + 1 => (nth S inp n).step inp
end St
def start (c : Co) : St := ⟨c, [], [], [], [], 0, false, 0, 0⟩
structure Li where
  en : Int
  exn : Int
  read : Int
  steps : Int
  out : List UInt8
def Does (c : Co) (inp : List UInt8) (steps : Int) (l : Li) : Prop :=
  ∃ i : Nat, (∀ j, j < i → ((start c).nth inp j).over = false) ∧ ((i : Int) ≤ steps) ∧ (((start c).nth inp i).over = true ∨ (i : Int) = steps) ∧
    l = ⟨if ((start c).nth inp i).over = true then ((start c).nth inp i).en else 4, ((start c).nth inp i).exn, ((start c).nth inp i).read, i, ((start c).nth inp i).out⟩
end Go.Proofs.YtjbiefneffiogaaGreat
