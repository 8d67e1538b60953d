/-
  Putting a job among jobs, said plainly: the program's list and the reference's are equal, or neither is valid. And the walk of impl.PutJob.
-/
import Derived.Test.YtaadlgpglfpmpaaDoorWorst
namespace Go.Proofs.YtaadlgpglfpmpaaDoor
open Go.RowKit

/-- p comes before j: by At, then by Task. -/
def Lt (p j : Jb) : Prop := p.at_ < j.at_ ∨ (p.at_ = j.at_ ∧ p.task < j.task)
theorem ordBad_iff (p j : Jb) : ordBad p j = false ↔ Lt p j := by
  unfold ordBad Lt; rw [decide_eq_false_iff_not]; omega
theorem Lt.trans {a b c : Jb} (h : Lt a b) (k : Lt b c) : Lt a c := by unfold Lt at *; omega
/-- Valid jobs, said plainly: each is one of the tasks', they rise, and two of a task are apart. -/
def Apart (l : List Tk) (a b : Jb) : Prop := Lt a b ∧ (a.task = b.task → evAt l b ≤ b.at_ - a.at_)
theorem jv_iff (l : List Tk) : ∀ (rest done : List Jb), done.Pairwise Lt → (jvFrom l done rest = true ↔ (∀ j ∈ rest, jobIn l j = true) ∧ (done ++ rest).Pairwise Lt ∧ rest.Pairwise (Apart l) ∧ ∀ a ∈ done, ∀ b ∈ rest, Apart l a b)
  | [], done, hd => by simp [jvFrom, hd]
  | j :: rest, done, hd => by
    have hlast : (!lastBad done j) = true ↔ ∀ a ∈ done, Lt a j := by
      unfold lastBad
      cases hg : done.getLast? with
      | none => simp at hg; subst hg; simp
      | some p =>
        obtain ⟨ys, rfl⟩ := List.getLast?_eq_some_iff.1 hg
        simp only [Bool.not_eq_true', ordBad_iff]
        rw [List.pairwise_append] at hd
        constructor
        · intro h a ha
          rcases List.mem_append.1 ha with ha | ha
          · exact (hd.2.2 a ha p (by simp)).trans h
          · simp at ha; subst ha; exact h
        · intro h; exact h p (by simp)
    have hcl : ((done.all fun k => !clash (evAt l j) j k) = true) ↔ ∀ a ∈ done, (a.task = j.task → evAt l j ≤ j.at_ - a.at_) := by
      rw [List.all_eq_true]
      refine forall_congr' fun a => forall_congr' fun _ => ?_
      simp only [clash, Bool.not_eq_true', decide_eq_false_iff_not]
      constructor
      · intro h e; have := fun k => h ⟨e, k⟩; omega
      · intro h k; have := h k.1; omega
    simp only [jvFrom, Bool.and_eq_true, hlast, hcl]
    constructor
    · rintro ⟨h1, h2, h3, h4⟩
      have hd' : (done ++ [j]).Pairwise Lt := by
        rw [List.pairwise_append]; exact ⟨hd, by simp, fun a ha b hb => by simp at hb; subst hb; exact h3 a ha⟩
      obtain ⟨k1, k2, k3, k4⟩ := (jv_iff l rest (done ++ [j]) hd').1 h4
      refine ⟨?_, by simpa using k2, ?_, ?_⟩
      · intro x hx; rcases List.mem_cons.1 hx with rfl | hx
        · exact h1
        · exact k1 x hx
      · rw [List.pairwise_cons]; exact ⟨fun b hb => k4 j (by simp) b hb, k3⟩
      · intro a ha b hb
        rcases List.mem_cons.1 hb with rfl | hb
        · exact ⟨h3 a ha, h2 a ha⟩
        · exact k4 a (by simp [ha]) b hb
    · rintro ⟨k1, k2, k3, k4⟩
      rw [List.pairwise_cons] at k3
      have h3 : ∀ a ∈ done, Lt a j := fun a ha => (k4 a ha j (by simp)).1
      have hd' : (done ++ [j]).Pairwise Lt := by
        rw [List.pairwise_append]; exact ⟨hd, by simp, fun a ha b hb => by simp at hb; subst hb; exact h3 a ha⟩
      refine ⟨k1 j (by simp), fun a ha => (k4 a ha j (by simp)).2, h3, (jv_iff l rest (done ++ [j]) hd').2 ⟨fun x hx => k1 x (by simp [hx]), by simpa using k2, k3.2, ?_⟩⟩
      intro a ha b hb
      rcases List.mem_append.1 ha with ha | ha
      · exact k4 a ha b (by simp [hb])
      · simp at ha; subst ha; exact k3.1 b hb
theorem jobsOk_iff (l : List Tk) (js : List Jb) : jobsOk l js = true ↔ setOk l = true ∧ js.length ≤ 60 ∧ (∀ j ∈ js, jobIn l j = true) ∧ js.Pairwise (Apart l) := by
  unfold jobsOk
  simp only [Bool.and_eq_true, decide_eq_true_eq]
  rw [jv_iff l js [] List.Pairwise.nil]
  constructor
  · rintro ⟨h1, h2, h3, _, h5, _⟩; exact ⟨h1, h2, h3, h5⟩
  · rintro ⟨h1, h2, h3, h5⟩; exact ⟨h1, h2, h3, by simpa using h5.imp (fun h => h.1), h5, by simp⟩

/-- j among the jobs, ahead of the first one that it does not come behind. -/
def insJ (j : Jb) : List Jb → List Jb
  | [] => [j]
  | k :: l => if ordBad k j = true then j :: k :: l else k :: insJ j l
theorem insJ_len (j : Jb) (l : List Jb) : (insJ j l).length = l.length + 1 := by
  induction l with
  | nil => rfl
  | cons k l ih => simp only [insJ]; split <;> simp [ih]
theorem insJ_at (j : Jb) : ∀ (l : List Jb) (n : Nat), n ≤ l.length → (∀ k ∈ l.take n, ordBad k j = false) → (∀ k ∈ (l.drop n).head?, ordBad k j = true) → insJ j l = l.take n ++ j :: l.drop n
  | [], n, hn, _, _ => by simp at hn; subst hn; rfl
  | k :: l, 0, _, _, h => by
    have := h k (by simp)
    simp [insJ, this]
  | k :: l, n + 1, hn, h1, h2 => by
    have hk := h1 k (by simp)
    simp only [insJ, hk, Bool.false_eq_true, if_false, List.take_succ_cons, List.drop_succ_cons, List.cons_append]
    rw [insJ_at j l n (by simpa using hn) (fun x hx => h1 x (by simp [hx])) (fun x hx => h2 x (by simpa using hx))]
theorem insJ_mem (j : Jb) (l : List Jb) (x : Jb) : x ∈ insJ j l ↔ x = j ∨ x ∈ l := by
  induction l with
  | nil => simp [insJ]
  | cons k l ih =>
    simp only [insJ]; split
    · simp
    · simp only [List.mem_cons, ih]; constructor <;> (intro h; rcases h with h | h | h <;> simp [h])

def putJ (l : List Tk) (js : List Jb) (j : Jb) : List Jb × Bool := if jobsOk l js = true ∧ jobsOk l (insJ j js) = true then (insJ j js, true) else ([], false)

/-- jbBefore as in the reference: it stands ahead of all that j comes before. -/
def befJ (a b : Jb) : Bool := decide (a.at_ < b.at_ ∨ (a.at_ = b.at_ ∧ a.task < b.task))
theorem befJ_iff (a b : Jb) : befJ a b = true ↔ Lt a b := by simp [befJ, Lt]

/-- The reference's place: either both lists are equal, or neither is valid. -/
theorem put_same (l : List Tk) (js : List Jb) (j : Jb) (h : jobsOk l js = true) (n : Nat) (hn : n ≤ js.length) (h1 : ∀ k ∈ js.drop n, befJ j k = true) (h2 : ∀ k ∈ (js.take n).getLast?, befJ j k = false) :
    insJ j js = js.take n ++ j :: js.drop n ∨ (jobsOk l (insJ j js) = false ∧ jobsOk l (js.take n ++ j :: js.drop n) = false) := by
  have hp : js.Pairwise Lt := ((jobsOk_iff l js).1 h).2.2.2.imp (fun h => h.1)
  have hpt : (js.take n ++ js.drop n).Pairwise Lt := by rw [List.take_append_drop]; exact hp
  rw [List.pairwise_append] at hpt
  by_cases ht : ∃ k ∈ js, k.at_ = j.at_ ∧ k.task = j.task
  · right
    obtain ⟨k, hk, e1, e2⟩ := ht
    have no : ∀ a b c : List Jb, ∀ x y : Jb, x.at_ = y.at_ → x.task = y.task → jobsOk l (a ++ x :: (b ++ y :: c)) = false := by
      intro a b c x y e1 e2
      cases hq : jobsOk l (a ++ x :: (b ++ y :: c)) with
      | false => rfl
      | true =>
        have := ((jobsOk_iff l _).1 hq).2.2.2
        rw [List.pairwise_append] at this
        have := (List.pairwise_cons.1 this.2.1).1 y (by simp)
        have := this.1
        unfold Lt at this; omega
    have both : ∀ a b : List Jb, a ++ b = js → jobsOk l (a ++ j :: b) = false := by
      intro a b e
      have hk' : k ∈ a ++ b := by rw [e]; exact hk
      rcases List.mem_append.1 hk' with hk' | hk'
      · obtain ⟨s, t, rfl⟩ := List.append_of_mem hk'
        rw [show s ++ k :: t ++ j :: b = s ++ k :: (t ++ j :: b) by simp]
        exact no _ _ _ _ _ e1 e2
      · obtain ⟨s, t, rfl⟩ := List.append_of_mem hk'
        exact no _ _ _ _ _ e1.symm e2.symm
    refine ⟨?_, both _ _ (List.take_append_drop n js)⟩
    obtain ⟨a, b, e, e'⟩ : ∃ a b, a ++ b = js ∧ insJ j js = a ++ j :: b := by
      clear h hn h1 h2 hp hpt hk both
      induction js with
      | nil => exact ⟨[], [], rfl, rfl⟩
      | cons u t ih =>
        by_cases hu : ordBad u j = true
        · exact ⟨[], u :: t, rfl, by simp [insJ, hu]⟩
        · obtain ⟨a, b, e, e'⟩ := ih
          exact ⟨u :: a, b, by simp [e], by simp [insJ, hu, e']⟩
    rw [e']; exact both a b e
  · left
    refine insJ_at j js n hn (fun k hk => ?_) (fun k hk => ?_)
    · rw [ordBad_iff]
      have hkj : ¬ (k.at_ = j.at_ ∧ k.task = j.task) := fun e => ht ⟨k, List.mem_of_mem_take hk, e⟩
      cases hg : (js.take n).getLast? with
      | none => simp at hg; rcases hg with rfl | rfl <;> simp at hk
      | some p =>
        have hb : ¬ Lt j p := by rw [← befJ_iff, h2 p (by rw [hg]; simp)]; simp
        obtain ⟨ys, hys⟩ := List.getLast?_eq_some_iff.1 hg
        rw [hys] at hk
        rcases List.mem_append.1 hk with hk | hk
        · have := hpt.1
          rw [hys, List.pairwise_append] at this
          have := this.2.2 k hk p (by simp)
          unfold Lt at *; omega
        · simp at hk; subst hk; unfold Lt at *; omega
    · have hk' : k ∈ js.drop n := List.mem_of_mem_head? hk
      have := (befJ_iff _ _).1 (h1 k hk')
      cases hq : ordBad k j with
      | true => rfl
      | false => rw [ordBad_iff] at hq; unfold Lt at *; omega

def PutRel (j : Jb) (js : List Jb) (b : Bool) (k : Nat) (q : List Jb) : Prop := insJ j js = q ++ (if b = true then js.drop k else insJ j (js.drop k))
theorem putrel_on {j k' : Jb} {js q : List Jb} {k : Nat} (h : PutRel j js true k q) (hk : js[k]? = some k') : PutRel j js true (k + 1) (q ++ [k']) := by
  unfold PutRel at *; rw [h, drop_cons hk]; simp
theorem putrel_yes {j k' : Jb} {js q : List Jb} {k : Nat} (h : PutRel j js false k q) (hk : js[k]? = some k') (hb : ordBad k' j = true) : PutRel j js true (k + 1) (q ++ [j] ++ [k']) := by
  unfold PutRel at *; rw [h, drop_cons hk]; simp [insJ, hb]
theorem putrel_no {j k' : Jb} {js q : List Jb} {k : Nat} (h : PutRel j js false k q) (hk : js[k]? = some k') (hb : ordBad k' j = false) : PutRel j js false (k + 1) (q ++ [k']) := by
  unfold PutRel at *; rw [h, drop_cons hk]; simp [insJ, hb]
theorem putrel_end1 {j : Jb} {js q : List Jb} {k : Nat} (h : PutRel j js true k q) (hk : ¬ k < js.length) : insJ j js = q := by
  unfold PutRel at h; rw [h, drop_end hk]; simp
theorem putrel_end2 {j : Jb} {js q : List Jb} {k : Nat} (h : PutRel j js false k q) (hk : ¬ k < js.length) : insJ j js = q ++ [j] := by
  unfold PutRel at h; rw [h, drop_end hk]; simp [insJ]

theorem own_cap {w : World} {base E size n : Nat} {ao : Option Addr} {c : Nat} {xs : List Value} (h : w.ownsRow base E size (.slice ao n c) n xs) : n ≤ c := by
  rcases h.2 with ⟨e, h0⟩ | ⟨g, cap, cur, e, _, _, h, _⟩
  · simp at e; omega
  · simp at e; omega

theorem put_keep {w wr w2 : World} {o2 : Obj} {E n : Nat} {u : Value} {xs : List Value} {X : Obj} {c0 : Array Value} {E0 : Nat} (hown : wr.ownsRow (w.heap.size + 1) E 3 u n xs) (hgrow : ((wr.alloc (.cells c0 E0)).alloc o2).grownBy w2 u.ownBlock) (hs : w.heap.size < wr.heap.size) (hbw : Bw w wr) (hbox : wr.heap[w.heap.size]? = some X) :
    w2.heap[wr.heap.size]? = some (.cells c0 E0 (0, 0)) ∧ Bw w w2 ∧ w2.heap[w.heap.size]? = some X := by
  have hlt := fun k hk => (hown.lt k hk)
  refine ⟨?_, Below.grown (Below.alloc (bw_trans hbw (bw_alloc _ _)) (by simp; omega) _) hgrow (by simp; omega) (fun g hg => by have := own_cap0 hown g hg; omega), ?_⟩
  · rw [hgrow.block wr.heap.size (by simp; omega) (fun e => by have := (hlt _ e.symm).2; omega)]
    exact blk_bw (bw_alloc _ _) (heap_alloc_new _ _)
  · rw [hgrow.block w.heap.size (by simp; omega) (fun e => by have := own_cap0 hown w.heap.size e.symm; omega)]
    exact blk_bw (bw_alloc _ _) (blk_bw (bw_alloc _ _) hbox)

end Go.Proofs.YtaadlgpglfpmpaaDoor
