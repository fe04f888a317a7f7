/- The layer answers as the document does: the plain law. -/
import Derived.Test.YthoaclojobgelaaGB
namespace Go.Proofs.Ythoaclojobgelaa.AM
open Go
set_option linter.unusedVariables false
set_option linter.unusedSimpArgs false

/-! ### walks -/
def Wk (l : List EdgeT) : Nat → Nat → Nat → Prop
  | 0, a, b => a = b
  | k + 1, a, b => ∃ c, Wk l k a c ∧ (⟨c, b⟩ : EdgeT) ∈ l
theorem Wk.add {l : List EdgeT} {a b : Nat} : ∀ {j k c : Nat}, Wk l j a b → Wk l k b c → Wk l (j + k) a c
  | j, 0, c, h, e => by cases e; exact h
  | j, k + 1, c, h, ⟨d, h1, h2⟩ => ⟨d, Wk.add h h1, h2⟩
theorem Wk.split {l : List EdgeT} {a : Nat} : ∀ {j k c : Nat}, Wk l (j + k) a c → ∃ b, Wk l j a b ∧ Wk l k b c
  | j, 0, c, h => ⟨c, h, rfl⟩
  | j, k + 1, c, ⟨d, h1, h2⟩ => by
    obtain ⟨b, h3, h4⟩ := Wk.split h1
    exact ⟨b, h3, d, h4, h2⟩
theorem Wk.one {l : List EdgeT} {a b : Nat} : Wk l 1 a b ↔ (⟨a, b⟩ : EdgeT) ∈ l := ⟨fun ⟨c, h1, h2⟩ => by cases h1; exact h2, fun h => ⟨a, rfl, h⟩⟩
/-- How many steps at least. -/
structure Dist (l : List EdgeT) (a b d : Nat) : Prop where
  pos : 0 < d
  wk : Wk l d a b
  min : ∀ j, 0 < j → j < d → ¬ Wk l j a b
theorem Dist.uniq {l : List EdgeT} {a b d e : Nat} (h : Dist l a b d) (k : Dist l a b e) : d = e := by
  rcases Nat.lt_trichotomy d e with hlt | rfl | hlt
  · exact absurd h.wk (k.min d h.pos hlt)
  · rfl
  · exact absurd k.wk (h.min e k.pos hlt)
def Rc (l : List EdgeT) (a b : Nat) : Prop := ∃ k, 0 < k ∧ Wk l k a b
theorem edge_iff {l : List EdgeT} {a b : Nat} : (∃ e ∈ l, e.f = a ∧ e.t = b) ↔ (⟨a, b⟩ : EdgeT) ∈ l :=
  ⟨fun ⟨e, h, h1, h2⟩ => by cases e; simp at h1 h2; subst h1 h2; exact h, fun h => ⟨_, h, rfl, rfl⟩⟩
theorem nexts_iff {l : List EdgeT} {a b : Nat} : b ∈ nextsS l a ↔ (⟨a, b⟩ : EdgeT) ∈ l := (nextsS_mem l a b).trans edge_iff

/-! ### one width -/
theorem foldF_spec (s : Nat) : ∀ (ms : List Nat) (a : FS), (∀ b, b ∈ (ms.foldl (stepF s) a).ks ↔ b ∈ a.ks ∨ b ∈ ms) ∧ (∀ b, b ∈ (ms.foldl (stepF s) a).nx ↔ b ∈ a.nx ∨ (b ∈ ms ∧ b ∉ a.ks)) ∧ (∀ b, b ∈ a.ks → (ms.foldl (stepF s) a).d b = a.d b) ∧ (∀ b, b ∉ a.ks → b ∈ ms → (ms.foldl (stepF s) a).d b = s)
  | [], a => by simp
  | m :: ms, a => by
    obtain ⟨h1, h2, h3, h4⟩ := foldF_spec s ms (stepF s a m)
    have e1 : ∀ b, b ∈ (stepF s a m).ks ↔ b ∈ a.ks ∨ b = m := by
      intro b; unfold stepF; split
      · rename_i h; constructor
        · exact .inl
        · rintro (h1 | rfl)
          · exact h1
          · exact h
      · simp
    have e2 : ∀ b, b ∈ (stepF s a m).nx ↔ b ∈ a.nx ∨ (b = m ∧ b ∉ a.ks) := by
      intro b; unfold stepF; split
      · rename_i h; constructor
        · exact .inl
        · rintro (h1 | ⟨rfl, hno⟩)
          · exact h1
          · exact absurd h hno
      · rename_i h; simp only [List.mem_append, List.mem_singleton]; constructor
        · rintro (h1 | rfl)
          · exact .inl h1
          · exact .inr ⟨rfl, h⟩
        · rintro (h1 | ⟨rfl, _⟩)
          · exact .inl h1
          · exact .inr rfl
    have e3 : ∀ b, b ∈ a.ks → (stepF s a m).d b = a.d b := by
      intro b hb; unfold stepF; split
      · rfl
      · rename_i h
        have : b ≠ m := by rintro rfl; exact h hb
        simp [this]
    have e4 : m ∉ a.ks → (stepF s a m).d m = s := by
      intro hm; unfold stepF; simp [hm]
    simp only [List.foldl_cons]
    refine ⟨fun b => ?_, fun b => ?_, fun b hb => ?_, fun b hb hm => ?_⟩
    · rw [h1, e1, List.mem_cons, or_assoc]
    · rw [h2, e2, e1, List.mem_cons]
      constructor
      · rintro ((h | ⟨h, h'⟩) | ⟨h, h'⟩)
        · exact .inl h
        · exact .inr ⟨.inl h, h'⟩
        · exact .inr ⟨.inr h, fun q => h' (.inl q)⟩
      · rintro (h | ⟨h | h, h'⟩)
        · exact .inl (.inl h)
        · exact .inl (.inr ⟨h, h'⟩)
        · by_cases e : b = m
          · exact .inl (.inr ⟨e, h'⟩)
          · exact .inr ⟨h, fun q => q.elim h' e⟩
    · rw [h3 b ((e1 b).2 (.inl hb)), e3 b hb]
    · by_cases e : b = m
      · subst e; rw [h3 b ((e1 b).2 (.inr rfl)), e4 hb]
      · exact h4 b (fun q => ((e1 b).1 q).elim hb e) ((List.mem_cons.1 hm).resolve_left e)
theorem levelF_flat (l : List EdgeT) (s : Nat) : ∀ (near : List Nat) (a : FS), levelF l s near a = (near.flatMap (nextsS l)).foldl (stepF s) a
  | [], a => rfl
  | n :: near, a => by
    have := levelF_flat l s near (inF l s a n)
    simp only [levelF, List.foldl_cons, List.flatMap_cons, List.foldl_append] at this ⊢
    exact this

/-- What the walk over widths knows, ahead of steps s. -/
structure Bfs (l : List EdgeT) (a s : Nat) (st : FS) : Prop where
  sp : 0 < s
  dist : ∀ b ∈ st.ks, Dist l a b (st.d b) ∧ st.d b < s ∧ st.d b ≤ 64
  all : ∀ b j, 0 < j → j < s → Wk l j a b → b ∈ st.ks
  near : ∀ b ∈ st.nx, Wk l (s - 1) a b
  far : ∀ c, Wk l (s - 1) a c → c ∈ st.nx ∨ ∃ j, 0 < j ∧ j < s - 1 ∧ Wk l j a c
theorem Bfs.init (l : List EdgeT) (a : Nat) : Bfs l a 1 ⟨[], fun _ => 0, [a]⟩ where
  sp := by decide
  dist := fun b hb => by cases hb
  all := fun b j h1 h2 => by omega
  near := fun b hb => (List.mem_singleton.1 hb).symm
  far := fun c hc => .inl (List.mem_singleton.2 hc.symm)
theorem Bfs.step {l : List EdgeT} {a s : Nat} {st : FS} (h : Bfs l a s st) (hok : OutOk l st) (hl : l.length ≤ 64) (hs : s ≤ st.ks.length + 1) : Bfs l a (s + 1) (levelF l s st.nx ⟨st.ks, st.d, []⟩) := by
  have hok2 : OutOk l (levelF l s st.nx ⟨st.ks, st.d, []⟩) := OutOk.lev s st.nx ⟨hok.nd, hok.sub⟩
  have hlen := hok2.len
  have hg := levF_grow l s st.nx ⟨st.ks, st.d, []⟩
  rw [levelF_flat] at hlen hg ⊢
  obtain ⟨h1, h2, h3, h4⟩ := foldF_spec s (st.nx.flatMap (nextsS l)) ⟨st.ks, st.d, []⟩
  generalize (st.nx.flatMap (nextsS l)).foldl (stepF s) ⟨st.ks, st.d, []⟩ = r at h1 h2 h3 h4 hlen hg
  simp only at h1 h2 h3 h4 hg
  have hfm : ∀ b, b ∈ st.nx.flatMap (nextsS l) ↔ ∃ c ∈ st.nx, (⟨c, b⟩ : EdgeT) ∈ l := by
    intro b; simp only [List.mem_flatMap]
    exact ⟨fun ⟨c, h, k⟩ => ⟨c, h, nexts_iff.1 k⟩, fun ⟨c, h, k⟩ => ⟨c, h, nexts_iff.2 k⟩⟩
  have hs1 : s - 1 + 1 = s := by have := h.sp; omega
  have hnew : ∀ b, b ∈ st.nx.flatMap (nextsS l) → Wk l s a b := by
    intro b hb
    obtain ⟨c, hc, he⟩ := (hfm b).1 hb
    rw [← hs1]; exact ⟨c, h.near c hc, he⟩
  have hall : ∀ b, Wk l s a b → b ∈ r.ks := by
    intro b hb
    rw [h1]
    rw [← hs1] at hb
    obtain ⟨c, hc, he⟩ := hb
    rcases h.far c hc with hc | ⟨j, hj, hj2, hc⟩
    · exact .inr ((hfm b).2 ⟨c, hc, he⟩)
    · exact .inl (h.all b (j + 1) (by omega) (by omega) ⟨c, hc, he⟩)
  refine ⟨by omega, ?_, ?_, ?_, ?_⟩
  · intro b hb
    rcases (h1 b).1 hb with hb' | hb'
    · rw [h3 b hb']
      obtain ⟨d1, d2, d3⟩ := h.dist b hb'
      exact ⟨d1, by omega, d3⟩
    · by_cases ho : b ∈ st.ks
      · rw [h3 b ho]
        obtain ⟨d1, d2, d3⟩ := h.dist b ho
        exact ⟨d1, by omega, d3⟩
      · rw [h4 b ho hb']
        refine ⟨⟨h.sp, hnew b hb', fun j hj hj2 hw => ho (h.all b j hj hj2 hw)⟩, by omega, ?_⟩
        have : b ∈ r.nx := (h2 b).2 (.inr ⟨hb', ho⟩)
        have := List.length_pos_of_mem this
        simp at hg
        omega
  · intro b j hj hj2 hw
    by_cases e : j = s
    · subst e; exact hall b hw
    · exact (h1 b).2 (.inl (h.all b j hj (by omega) hw))
  · intro b hb
    rcases (h2 b).1 hb with hb' | ⟨hb', _⟩
    · cases hb'
    · exact hnew b hb'
  · intro c hc
    simp only [Nat.add_sub_cancel] at hc ⊢
    have hk := hall c hc
    by_cases ho : c ∈ st.ks
    · obtain ⟨d1, d2, _⟩ := h.dist c ho
      exact .inr ⟨st.d c, d1.pos, d2, d1.wk⟩
    · exact .inl ((h2 c).2 (.inr ⟨((h1 c).1 hk).resolve_left ho, ho⟩))
/-- What is reached, and how far it is. -/
structure FarOk (l : List EdgeT) (a : Nat) (r : FS) : Prop where
  dist : ∀ b ∈ r.ks, Dist l a b (r.d b) ∧ r.d b ≤ 64
  all : ∀ b, Rc l a b → b ∈ r.ks
theorem Bfs.done {l : List EdgeT} {a s : Nat} {st : FS} (h : Bfs l a (s + 1) st) (hz : st.nx = []) : FarOk l a st where
  dist := fun b hb => ⟨(h.dist b hb).1, (h.dist b hb).2.2⟩
  all := by
    have key : ∀ n b k, k ≤ n → 0 < k → Wk l k a b → b ∈ st.ks := by
      intro n
      induction n with
      | zero => intro b k h1 h2; omega
      | succ n ih =>
        intro b k hk hp hw
        by_cases hlt : k < s + 1
        · exact h.all b k hp hlt hw
        · obtain ⟨m, rfl⟩ : ∃ m, k = s + m := ⟨k - s, by omega⟩
          obtain ⟨c, hc, hm⟩ := Wk.split hw
          rcases h.far c hc with hc' | ⟨j, hj, hj2, hc'⟩
          · rw [hz] at hc'; cases hc'
          · exact ih b (j + m) (by omega) (by omega) (hc'.add hm)
    rintro b ⟨k, hp, hw⟩
    exact key k b k (Nat.le_refl _) hp hw
theorem goF_law {l : List EdgeT} {a : Nat} (hl : l.length ≤ 64) : ∀ f s st, Bfs l a s st → OutOk l st → s ≤ st.ks.length + 1 → 66 ≤ s + f → FarOk l a (goF l f s st)
  | 0, s, st, h, hok, hs, hf => by have := hok.len; omega
  | f + 1, s, st, h, hok, hs, hf => by
    have h2 := h.step hok hl hs
    have hok2 : OutOk l (levelF l s st.nx ⟨st.ks, st.d, []⟩) := OutOk.lev s st.nx ⟨hok.nd, hok.sub⟩
    have hg := levF_grow l s st.nx ⟨st.ks, st.d, []⟩
    unfold goF; split
    · rename_i hz
      exact h2.done hz
    · rename_i hz
      have : 0 < (levelF l s st.nx ⟨st.ks, st.d, []⟩).nx.length := List.length_pos_iff.2 hz
      simp only [List.length_nil, Nat.sub_zero] at hg
      exact goF_law hl f (s + 1) _ h2 hok2 (by omega) (by omega)
theorem far_law {l : List EdgeT} (hl : l.length ≤ 64) (a : Nat) : FarOk l a (farF l a) := goF_law hl _ _ _ (Bfs.init l a) ⟨List.nodup_nil, fun k hk => by cases hk⟩ (by simp) (by omega)
theorem far_mem {l : List EdgeT} (hl : l.length ≤ 64) (a b : Nat) : b ∈ (farF l a).ks ↔ Rc l a b := ⟨fun h => ⟨_, ((far_law hl a).dist b h).1.pos, ((far_law hl a).dist b h).1.wk⟩, (far_law hl a).all b⟩
theorem far_dist {l : List EdgeT} (hl : l.length ≤ 64) (a b d : Nat) : (b ∈ (farF l a).ks ∧ (farF l a).d b = d) ↔ Dist l a b d := by
  constructor
  · rintro ⟨h, rfl⟩; exact ((far_law hl a).dist b h).1
  · intro h
    have hm := (far_law hl a).all b ⟨d, h.pos, h.wk⟩
    exact ⟨hm, ((far_law hl a).dist b hm).1.uniq h⟩
theorem dist_le {l : List EdgeT} (hl : l.length ≤ 64) {a b d : Nat} (h : Dist l a b d) : d ≤ 64 := by
  obtain ⟨h1, rfl⟩ := (far_dist hl a b d).2 h
  exact ((far_law hl a).dist b h1).2
end Go.Proofs.Ythoaclojobgelaa.AM

namespace Go.Proofs.Ythoaclojobgelaa.AM
open Go
set_option linter.unusedVariables false
set_option linter.unusedSimpArgs false

/-! ### rising rows -/
theorem insG_mem (n x : Nat) : ∀ l, x ∈ insG n l ↔ x = n ∨ x ∈ l
  | [] => by simp [insG]
  | y :: l => by
    unfold insG; split
    · simp
    · rw [List.mem_cons, insG_mem n x l, List.mem_cons]
      constructor
      · rintro (h | h | h)
        · exact .inr (.inl h)
        · exact .inl h
        · exact .inr (.inr h)
      · rintro (h | h | h)
        · exact .inr (.inl h)
        · exact .inl h
        · exact .inr (.inr h)
theorem insG_rise (n : Nat) : ∀ {l : List Nat}, l.Pairwise (· < ·) → n ∉ l → (insG n l).Pairwise (· < ·)
  | [], _, _ => by simp [insG]
  | y :: l, h, hn => by
    have h2 := List.pairwise_cons.1 h
    unfold insG; split
    · rename_i hlt
      refine List.pairwise_cons.2 ⟨fun z hz => ?_, h⟩
      rcases List.mem_cons.1 hz with rfl | hz
      · exact hlt
      · have := h2.1 z hz; omega
    · rename_i hlt
      have hne : n ≠ y := fun e => hn (by simp [e])
      refine List.pairwise_cons.2 ⟨fun z hz => ?_, insG_rise n h2.2 (fun q => hn (by simp [q]))⟩
      rcases (insG_mem n z l).1 hz with rfl | hz
      · omega
      · exact h2.1 z hz
theorem withS_mem (l : List Nat) (n x : Nat) : x ∈ withS l n ↔ x = n ∨ x ∈ l := by
  unfold withS; split
  · rename_i h; constructor
    · exact .inr
    · rintro (rfl | h')
      · exact h
      · exact h'
  · exact insG_mem n x l
theorem withS_rise {l : List Nat} (h : l.Pairwise (· < ·)) (n : Nat) : (withS l n).Pairwise (· < ·) := by
  unfold withS; split
  · exact h
  · rename_i hn; exact insG_rise n h hn
theorem rise_nodup {l : List Nat} (h : l.Pairwise (· < ·)) : l.Nodup := h.imp (fun h => by omega)
theorem rise_eq : ∀ {a b : List Nat}, a.Pairwise (· < ·) → b.Pairwise (· < ·) → (∀ x, x ∈ a ↔ x ∈ b) → a = b := by
  intro a b ha hb h
  exact List.Perm.eq_of_pairwise (le := fun x y : Nat => x ≤ y) (fun a b _ _ h1 h2 => by omega) (ha.imp (fun h => by omega)) (hb.imp (fun h => by omega)) ((List.perm_ext_iff_of_nodup (rise_nodup ha) (rise_nodup hb)).2 h)
theorem sortL_rise {ks : List Nat} (h : ks.Nodup) : (sortL ks).Pairwise (· < ·) := by
  have h1 := sortL_sorted ks
  have h2 : (sortL ks).Nodup := (sortL_perm ks).nodup_iff.2 h
  exact (List.Pairwise.and h1 h2).imp (fun ⟨a, b⟩ => Nat.lt_of_le_of_ne a b)
theorem sortL_mem {ks : List Nat} {x : Nat} : x ∈ sortL ks ↔ x ∈ ks := (sortL_perm ks).mem_iff

/-! ### Reach -/
theorem reach_fold (a : Nat) : ∀ (m : List EdgeT) (out : List Nat), out.Pairwise (· < ·) → (m.foldl (reachStep a) out).Pairwise (· < ·) ∧ (∀ x ∈ out, x ∈ m.foldl (reachStep a) out) ∧ (∀ e ∈ m, e.f = a ∨ e.f ∈ out → e.t ∈ m.foldl (reachStep a) out)
  | [], out, h => ⟨h, fun x hx => hx, fun e he => by cases he⟩
  | e :: m, out, h => by
    have hr : (reachStep a out e).Pairwise (· < ·) := by unfold reachStep; split; exact withS_rise h _; exact h
    have hs : ∀ x ∈ out, x ∈ reachStep a out e := by
      intro x hx; unfold reachStep; split
      · exact (withS_mem _ _ _).2 (.inr hx)
      · exact hx
    obtain ⟨h1, h2, h3⟩ := reach_fold a m _ hr
    refine ⟨h1, fun x hx => h2 x (hs x hx), fun e' he' hc => ?_⟩
    rcases List.mem_cons.1 he' with rfl | he'
    · refine h2 _ ?_
      unfold reachStep; rw [if_pos hc]; exact (withS_mem _ _ _).2 (.inl rfl)
    · exact h3 e' he' (hc.imp id (hs _))
theorem reach_sound {l : List EdgeT} (a : Nat) : ∀ (m : List EdgeT) (out : List Nat), (∀ e ∈ m, e ∈ l) → (∀ x ∈ out, Rc l a x) → ∀ x ∈ m.foldl (reachStep a) out, Rc l a x
  | [], out, _, h => h
  | e :: m, out, hm, h => by
    refine reach_sound a m _ (fun e' he' => hm e' (by simp [he'])) ?_
    intro x hx
    have he : e ∈ l := hm e (by simp)
    unfold reachStep at hx
    split at hx
    · rename_i hc
      rcases (withS_mem _ _ _).1 hx with rfl | hx
      · rcases hc with hc | hc
        · refine ⟨1, by decide, Wk.one.2 ?_⟩
          rw [← hc]; exact he
        · obtain ⟨k, hk, hw⟩ := h _ hc
          exact ⟨k + 1, by omega, _, hw, he⟩
      · exact h x hx
    · exact h x hx
def ClosedS (l : List EdgeT) (a : Nat) (out : List Nat) : Prop := ∀ e ∈ l, e.f = a ∨ e.f ∈ out → e.t ∈ out
theorem closed_all {l : List EdgeT} {a : Nat} {out : List Nat} (h : ClosedS l a out) : ∀ k b, 0 < k → Wk l k a b → b ∈ out
  | 1, b, _, hw => h ⟨a, b⟩ (Wk.one.1 hw) (.inl rfl)
  | k + 2, b, _, ⟨c, hc, he⟩ => h ⟨c, b⟩ he (.inr (closed_all h (k + 1) c (by omega) hc))
theorem closed_same {l : List EdgeT} {a : Nat} {out : List Nat} (h : ClosedS l a out) : reachPass l a out = out := by
  have key : ∀ m : List EdgeT, (∀ e ∈ m, e ∈ l) → m.foldl (reachStep a) out = out := by
    intro m
    induction m with
    | nil => intro _; rfl
    | cons e m ih =>
      intro hm
      have : reachStep a out e = out := by
        unfold reachStep; split
        · rename_i hc
          have := h e (hm e (by simp)) hc
          simp [withS, this]
        · rfl
      simp only [List.foldl_cons, this]
      exact ih (fun e' he' => hm e' (by simp [he']))
  exact key l (fun e h => h)
theorem reachN_rise (l : List EdgeT) (a : Nat) : ∀ k, (reachN l a k).Pairwise (· < ·)
  | 0 => List.Pairwise.nil
  | k + 1 => (reach_fold a l _ (reachN_rise l a k)).1
theorem reachN_sound (l : List EdgeT) (a : Nat) : ∀ k, ∀ x ∈ reachN l a k, Rc l a x
  | 0 => fun x hx => by cases hx
  | k + 1 => reach_sound a l _ (fun e h => h) (reachN_sound l a k)
theorem Rc.target {l : List EdgeT} {a b : Nat} (h : Rc l a b) : b ∈ l.map (·.t) := by
  obtain ⟨k, hk, hw⟩ := h
  cases k with
  | zero => omega
  | succ k => obtain ⟨c, _, he⟩ := hw; exact List.mem_map.2 ⟨_, he, rfl⟩
theorem Rc.source {l : List EdgeT} {a b : Nat} (h : Rc l a b) : ∃ e ∈ l, e.f = a := by
  obtain ⟨k, hk, hw⟩ := h
  obtain ⟨j, rfl⟩ : ∃ j, k = 1 + j := ⟨k - 1, by omega⟩
  obtain ⟨c, h1, _⟩ := Wk.split hw
  exact ⟨_, Wk.one.1 h1, rfl⟩
theorem reachN_len2 (l : List EdgeT) (a k : Nat) : (reachN l a k).length ≤ l.length := by
  have := sub_len (rise_nodup (reachN_rise l a k)) (b := l.map (·.t)) (fun x hx => (reachN_sound l a k x hx).target)
  simpa using this
theorem reachN_grow (l : List EdgeT) (a : Nat) : ∀ k, ClosedS l a (reachN l a k) ∨ k ≤ (reachN l a k).length
  | 0 => .inr (Nat.zero_le _)
  | k + 1 => by
    by_cases hc : ClosedS l a (reachN l a k)
    · left
      have : reachN l a (k + 1) = reachN l a k := closed_same hc
      rw [this]; exact hc
    · right
      have hk := (reachN_grow l a k).resolve_left hc
      obtain ⟨h1, h2, h3⟩ := reach_fold a l _ (reachN_rise l a k)
      have : ∃ e ∈ l, (e.f = a ∨ e.f ∈ reachN l a k) ∧ e.t ∉ reachN l a k := by
        refine Classical.byContradiction (fun hno => hc (fun e he hs => ?_))
        exact Classical.byContradiction (fun ht => hno ⟨e, he, hs, ht⟩)
      obtain ⟨e, he, hs, ht⟩ := this
      have := sub_len (a := e.t :: reachN l a k) (b := reachN l a (k + 1)) (List.nodup_cons.2 ⟨ht, rise_nodup (reachN_rise l a k)⟩) (fun x hx => by
        rcases List.mem_cons.1 hx with rfl | hx
        · exact h3 e he hs
        · exact h2 x hx)
      simp only [List.length_cons] at this
      omega
theorem reachS_mem {l : List EdgeT} (hl : l.length ≤ 64) (a b : Nat) : b ∈ reachS l a ↔ Rc l a b := by
  constructor
  · exact reachN_sound l a 65 b
  · rintro ⟨k, hk, hw⟩
    have := reachN_len2 l a 65
    have hc := (reachN_grow l a 65).resolve_right (by omega)
    exact closed_all hc k b hk hw
theorem reach_law {l : List EdgeT} (hw : wrongS l = 0) (a : Nat) : reachG l a = reachS l a := by
  have hl := wrong_len hw
  unfold reachG; rw [if_pos hw]
  refine rise_eq (sortL_rise (farF_out l a).nd) (reachN_rise l a 65) (fun x => ?_)
  rw [sortL_mem, far_mem hl]; exact (reachS_mem hl a x).symm

/-! ### On -/
theorem on_fold (l : List EdgeT) : ∀ (m : List EdgeT) (out : List Nat), out.Pairwise (· < ·) → (m.foldl (onStep l) out).Pairwise (· < ·) ∧ ∀ x, x ∈ m.foldl (onStep l) out ↔ x ∈ out ∨ ∃ e ∈ m, e.f = x ∧ x ∈ reachS l x
  | [], out, h => by simp [h]
  | e :: m, out, h => by
    have hr : (onStep l out e).Pairwise (· < ·) := by unfold onStep; split; exact withS_rise h _; exact h
    obtain ⟨h1, h2⟩ := on_fold l m _ hr
    refine ⟨h1, fun x => ?_⟩
    rw [List.foldl_cons, h2]
    have : x ∈ onStep l out e ↔ x ∈ out ∨ (e.f = x ∧ x ∈ reachS l x) := by
      unfold onStep; split
      · rename_i hc
        rw [withS_mem]
        constructor
        · rintro (rfl | h)
          · exact .inr ⟨rfl, hc⟩
          · exact .inl h
        · rintro (h | ⟨rfl, _⟩)
          · exact .inr h
          · exact .inl rfl
      · rename_i hc
        constructor
        · exact .inl
        · rintro (h | ⟨rfl, hx⟩)
          · exact h
          · exact absurd hx hc
    rw [this]
    constructor
    · rintro ((a | a) | ⟨e', a, b⟩)
      · exact .inl a
      · exact .inr ⟨e, by simp, a⟩
      · exact .inr ⟨e', by simp [a], b⟩
    · rintro (a | ⟨e', a, b⟩)
      · exact .inl (.inl a)
      · rcases List.mem_cons.1 a with rfl | a
        · exact .inl (.inr b)
        · exact .inr ⟨e', a, b⟩
theorem onS_rise (l : List EdgeT) : (onS l).Pairwise (· < ·) := (on_fold l l [] List.Pairwise.nil).1
theorem onS_mem {l : List EdgeT} (hl : l.length ≤ 64) (x : Nat) : x ∈ onS l ↔ Rc l x x := by
  have := (on_fold l l [] List.Pairwise.nil).2 x
  unfold onS
  rw [this]
  constructor
  · rintro (h | ⟨e, _, _, h⟩)
    · cases h
    · exact (reachS_mem hl x x).1 h
  · intro h
    obtain ⟨e, he, hf⟩ := h.source
    exact .inr ⟨e, he, hf, (reachS_mem hl x x).2 h⟩
theorem on_law {l : List EdgeT} (hw : wrongS l = 0) : onG l = onS l := by
  have hl := wrong_len hw
  unfold onG; rw [if_pos hw]
  refine rise_eq (sortL_rise (onK_nodup l)) (onS_rise l) (fun x => ?_)
  rw [sortL_mem, onK_mem, far_mem hl, onS_mem hl]
  exact ⟨fun h => h.2, fun h => ⟨h.source, h⟩⟩
theorem vic_law {l : List EdgeT} (hw : wrongS l = 0) (order : List Nat) : vicG l order = vicS (fun x => decide (x ∈ onS l)) order := by
  have hl := wrong_len hw
  unfold vicG; rw [if_pos hw]
  congr 1
  funext x
  simp only [decide_eq_decide]
  rw [far_mem hl, onS_mem hl]

/-! ### Far -/
theorem next_fold (near : List Nat) : ∀ (m : List EdgeT) (out : List Nat), ∀ x, x ∈ m.foldl (nextStep near) out ↔ x ∈ out ∨ ∃ e ∈ m, e.f ∈ near ∧ e.t = x
  | [], out, x => by simp
  | e :: m, out, x => by
    rw [List.foldl_cons, next_fold near m]
    have : x ∈ nextStep near out e ↔ x ∈ out ∨ (e.f ∈ near ∧ e.t = x) := by
      unfold nextStep; split
      · rename_i hc
        rw [withS_mem]
        constructor
        · rintro (rfl | h)
          · exact .inr ⟨hc, rfl⟩
          · exact .inl h
        · rintro (h | ⟨_, rfl⟩)
          · exact .inr h
          · exact .inl rfl
      · rename_i hc
        constructor
        · exact .inl
        · rintro (h | ⟨h, _⟩)
          · exact h
          · exact absurd h hc
    rw [this]
    constructor
    · rintro ((a | a) | ⟨e', a, b⟩)
      · exact .inl a
      · exact .inr ⟨e, by simp, a⟩
      · exact .inr ⟨e', by simp [a], b⟩
    · rintro (a | ⟨e', a, b⟩)
      · exact .inl (.inl a)
      · rcases List.mem_cons.1 a with rfl | a
        · exact .inl (.inr b)
        · exact .inr ⟨e', a, b⟩
theorem levS_mem (l : List EdgeT) (a : Nat) : ∀ k b, b ∈ levS l a k ↔ Wk l k a b
  | 0, b => by simp [levS, Wk, eq_comm]
  | k + 1, b => by
    simp only [levS, nextS, Wk]
    rw [next_fold]
    constructor
    · rintro (h | ⟨e, he, h1, rfl⟩)
      · cases h
      · exact ⟨e.f, (levS_mem l a k e.f).1 h1, he⟩
    · rintro ⟨c, h1, h2⟩
      exact .inr ⟨_, h2, (levS_mem l a k c).2 h1, rfl⟩
theorem farGo_law (q : Nat → Bool) (d : Nat) : ∀ f n, 0 < n → (farGo q f n = (d : Int) ↔ n ≤ d ∧ d < n + f ∧ q d = true ∧ ∀ j, n ≤ j → j < d → q j = false)
  | 0, n, h => by simp [farGo]; omega
  | f + 1, n, h => by
    unfold farGo
    cases hq : q n
    · simp
      rw [farGo_law q d f (n + 1) (by omega)]
      constructor
      · rintro ⟨h1, h2, h3, h4⟩
        refine ⟨by omega, by omega, h3, fun j hj hj2 => ?_⟩
        by_cases e : j = n
        · subst e; exact hq
        · exact h4 j (by omega) hj2
      · rintro ⟨h1, h2, h3, h4⟩
        have : d ≠ n := by rintro rfl; rw [hq] at h3; cases h3
        exact ⟨by omega, by omega, h3, fun j hj hj2 => h4 j (by omega) hj2⟩
    · simp
      constructor
      · rintro rfl
        exact ⟨by omega, by omega, hq, fun j hj hj2 => by omega⟩
      · rintro ⟨h1, h2, h3, h4⟩
        refine Classical.byContradiction fun hne => ?_
        have := h4 n (by omega) (by omega)
        rw [hq] at this; cases this
theorem farS_dist {l : List EdgeT} (hl : l.length ≤ 64) (a b d : Nat) : farS l a b = (d : Int) ↔ Dist l a b d := by
  unfold farS
  rw [farGo_law _ d 64 1 (by decide)]
  simp only [decide_eq_true_eq, decide_eq_false_iff_not, levS_mem]
  constructor
  · rintro ⟨h1, h2, h3, h4⟩
    exact ⟨by omega, h3, fun j hj hj2 => h4 j (by omega) hj2⟩
  · intro h
    have := dist_le hl h
    exact ⟨h.pos, by omega, h.wk, fun j hj hj2 => h.min j (by omega) hj2⟩
end Go.Proofs.Ythoaclojobgelaa.AM

namespace Go.Proofs.Ythoaclojobgelaa.AM
open Go
set_option linter.unusedVariables false
set_option linter.unusedSimpArgs false

def Least (S : Nat → Prop) (x : Nat) : Prop := S x ∧ ∀ y, S y → x ≤ y
theorem Least.uniq {S : Nat → Prop} {x y : Nat} (h : Least S x) (k : Least S y) : x = y := Nat.le_antisymm (h.2 y k.1) (k.2 x h.1)
def BInv (S : Nat → Prop) (b : Nat × Bool) : Prop := (b.2 = true ∧ Least S b.1) ∨ (b.2 = false ∧ ∀ y, ¬ S y)
theorem BInv.iff {S S' : Nat → Prop} {b : Nat × Bool} (h : BInv S b) (e : ∀ y, S y ↔ S' y) : BInv S' b := by
  have : S = S' := funext fun y => propext (e y)
  subst this; exact h
theorem best_step {l : List EdgeT} {n a s : Nat} {S : Nat → Prop} {b : Nat × Bool} (h : BInv S b) (e : EdgeT) : BInv (fun y => S y ∨ ((e.f = a ∧ farS l e.t n = s) ∧ y = e.t)) (bestStep l n a s b e) := by
  by_cases hg : e.f = a ∧ farS l e.t n = s
  · rcases h with ⟨h1, h2⟩ | ⟨h1, h2⟩
    · by_cases hlt : e.t < b.1
      · have : bestStep l n a s b e = (e.t, true) := by simp [bestStep, hg, hlt]
        rw [this]
        refine .inl ⟨rfl, .inr ⟨hg, rfl⟩, fun y hy => ?_⟩
        rcases hy with hy | ⟨_, rfl⟩
        · have := h2.2 y hy; simp only; omega
        · exact Nat.le_refl _
      · have : bestStep l n a s b e = b := by simp [bestStep, hlt, h1]
        rw [this]
        refine .inl ⟨h1, .inl h2.1, fun y hy => ?_⟩
        rcases hy with hy | ⟨_, rfl⟩
        · exact h2.2 y hy
        · omega
    · have : bestStep l n a s b e = (e.t, true) := by simp [bestStep, hg, h1]
      rw [this]
      refine .inl ⟨rfl, .inr ⟨hg, rfl⟩, fun y hy => ?_⟩
      rcases hy with hy | ⟨_, rfl⟩
      · exact absurd hy (h2 y)
      · exact Nat.le_refl _
  · have : bestStep l n a s b e = b := by
      unfold bestStep; rw [if_neg]; rintro ⟨⟨h1, _⟩, h3⟩; exact hg ⟨h1, h3⟩
    rw [this]
    exact h.iff (fun y => ⟨.inl, fun q => q.elim id (fun q => absurd q.1 hg)⟩)
theorem best_fold {l : List EdgeT} {n a s : Nat} : ∀ (m : List EdgeT) {S : Nat → Prop} {b : Nat × Bool}, BInv S b → BInv (fun y => S y ∨ ∃ e ∈ m, (e.f = a ∧ farS l e.t n = s) ∧ y = e.t) (m.foldl (bestStep l n a s) b)
  | [], S, b, h => h.iff (fun y => by simp)
  | e :: m, S, b, h => by
    have := best_fold (l := l) (n := n) (a := a) (s := s) m (best_step (l := l) (n := n) (a := a) (s := s) h e)
    refine this.iff (fun y => ?_)
    constructor
    · rintro ((q | q) | ⟨e', q, r⟩)
      · exact .inl q
      · exact .inr ⟨e, by simp, q⟩
      · exact .inr ⟨e', by simp [q], r⟩
    · rintro (q | ⟨e', q, r⟩)
      · exact .inl (.inl q)
      · rcases List.mem_cons.1 q with rfl | q
        · exact .inl (.inr r)
        · exact .inr ⟨e', q, r⟩
/-- A step on a shortest way. -/
theorem Dist.next {l : List EdgeT} {a n s : Nat} (h : Dist l a n (s + 2)) : ∃ m, (⟨a, m⟩ : EdgeT) ∈ l ∧ Dist l m n (s + 1) := by
  have hw := h.wk
  rw [show s + 2 = 1 + (s + 1) by omega] at hw
  obtain ⟨m, h1, h2⟩ := Wk.split hw
  refine ⟨m, Wk.one.1 h1, by omega, h2, fun j hj hj2 hjw => ?_⟩
  exact h.min (1 + j) (by omega) (by omega) (h1.add hjw)
def NxS (l : List EdgeT) (n a s : Nat) (m : Nat) : Prop := (⟨a, m⟩ : EdgeT) ∈ l ∧ Dist l m n s
theorem best_law {l : List EdgeT} (hl : l.length ≤ 64) {a n s : Nat} (h : Dist l a n (s + 2)) : Least (NxS l n a (s + 1)) (bestS l n a (s + 1)) := by
  have hb : BInv (fun _ : Nat => False) (0, false) := .inr ⟨rfl, fun y => id⟩
  have := best_fold (l := l) (n := n) (a := a) (s := s + 1) l hb
  have h2 := this.iff (S' := NxS l n a (s + 1)) (fun y => by
    unfold NxS
    rw [← farS_dist hl]
    constructor
    · rintro (q | ⟨e, he, ⟨rfl, q⟩, rfl⟩)
      · exact q.elim
      · exact ⟨he, q⟩
    · rintro ⟨q, r⟩
      exact .inr ⟨_, q, ⟨rfl, r⟩, rfl⟩)
  rcases h2 with ⟨_, h2⟩ | ⟨_, h2⟩
  · exact h2
  · obtain ⟨m, hm⟩ := h.next
    exact absurd hm (h2 m)
theorem pickQ_iff {l : List EdgeT} (hl : l.length ≤ 64) (n s m : Nat) : pickQ l n s m = true ↔ Dist l m n s := by
  rw [← far_dist hl]; simp [pickQ]
theorem pick_law {l : List EdgeT} (hl : l.length ≤ 64) {a n s : Nat} (h : Dist l a n (s + 2)) : Least (NxS l n a (s + 1)) (pickG l n (s + 1) a) := by
  obtain ⟨m, hm, hd⟩ := h.next
  have hrise : (nextsS l a).Pairwise (· < ·) := sortL_rise (nextK_nodup l a)
  unfold pickG
  cases hf : (nextsS l a).find? (pickQ l n (s + 1)) with
  | none =>
    rw [List.find?_eq_none] at hf
    exact absurd ((pickQ_iff hl n (s + 1) m).2 hd) (hf m (nexts_iff.2 hm))
  | some x =>
    obtain ⟨hq, as, bs, heq, has⟩ := List.find?_eq_some_iff_append.1 hf
    have hx : x ∈ nextsS l a := by rw [heq]; simp
    refine ⟨⟨nexts_iff.1 hx, (pickQ_iff hl n (s + 1) x).1 hq⟩, fun y hy => ?_⟩
    have hy1 : y ∈ nextsS l a := nexts_iff.2 hy.1
    have hy2 := (pickQ_iff hl n (s + 1) y).2 hy.2
    rw [heq] at hy1 hrise
    rcases List.mem_append.1 hy1 with hy1 | hy1
    · have := has y hy1
      rw [hy2] at this; cases this
    · rcases List.mem_cons.1 hy1 with rfl | hy1
      · exact Nat.le_refl _
      · have := (List.pairwise_cons.1 (List.pairwise_append.1 hrise).2.1).1 y hy1
        simp only [Option.getD_some]; omega
theorem circLp_law {l : List EdgeT} (hl : l.length ≤ 64) (n : Nat) : ∀ s a, Dist l a n (s + 1) → circLp l n s a = circGo l n s a
  | 0, a, h => rfl
  | s + 1, a, h => by
    have h1 := pick_law hl h
    have h2 := best_law hl h
    have e := h1.uniq h2
    simp only [circLp, circGo]
    rw [← e, circLp_law hl n s _ h1.1.2]
theorem circ_law {l : List EdgeT} (hw : wrongS l = 0) {n : Nat} (h : n ∈ reachS l n) : circG l n = circS l n := by
  have hl := wrong_len hw
  have hr := (reachS_mem hl n n).1 h
  have hm := (far_law hl n).all n hr
  have hd := ((far_law hl n).dist n hm).1
  have hf := (farS_dist hl n n _).2 hd
  unfold circG circO circS
  rw [if_pos ⟨hw, hm⟩, hf]
  congr 1
  have hp := hd.pos
  have e : (((farF l n).d n : Int) - 1).toNat = (farF l n).d n - 1 := by omega
  rw [e]
  exact circLp_law hl n _ n (by rw [show (farF l n).d n - 1 + 1 = (farF l n).d n by omega]; exact hd)
theorem circE_law {l : List EdgeT} (hw : wrongS l = 0) (n : Nat) : circE l n = if n ∈ reachS l n then 0 else 4 := by
  have hl := wrong_len hw
  unfold circE; rw [if_pos hw]
  have : n ∈ (farF l n).ks ↔ n ∈ reachS l n := by rw [far_mem hl, reachS_mem hl]
  simp only [this]
theorem circG_none {l : List EdgeT} (hw : wrongS l = 0) {n : Nat} (h : n ∉ reachS l n) : circG l n = [] := by
  have hl := wrong_len hw
  have : n ∉ (farF l n).ks := by rw [far_mem hl, ← reachS_mem hl]; exact h
  simp [circG, this]
end Go.Proofs.Ythoaclojobgelaa.AM
