import Derived.Test.YtemiflllckincaaLgM
namespace Go.Chi

/-! ### an own slice's elements -/
theorem flat_at {size : Nat} : ∀ {ls : List (List Value)} (_ : ∀ l ∈ ls, l.length = size) {i j : Nat} {c : List Value} {u : Value}, ls[i]? = some c → c[j]? = some u → ls.flatten[i * size + j]? = some u
  | [], _, i, j, c, u, hc, _ => by simp at hc
  | l :: ls, hsz, i, j, c, u, hc, hu => by
    have h5 := hsz l (by simp)
    rw [List.flatten_cons]
    cases i with
    | zero =>
      simp at hc; subst hc
      have := (List.getElem?_eq_some_iff.1 hu).1
      rw [List.getElem?_append_left (by omega)]; simpa using hu
    | succ i =>
      rw [List.getElem?_append_right (by rw [Nat.add_mul]; omega)]
      have : (i + 1) * size + j - l.length = i * size + j := by rw [Nat.add_mul]; omega
      rw [this]
      exact flat_at (fun x hx => hsz x (List.mem_cons_of_mem _ hx)) (by simpa using hc) hu
theorem OS.at_ {e size : Nat} {v : Value} {n : Nat} {ls : List (List Value)} {N : HL} (h : OS e size v n ls.flatten N) (hsz : ∀ l ∈ ls, l.length = size) (hl : ls.length = n) {k : Nat} {c : List Value} (hk : ls[k]? = some c) :
    ∃ b cap cs, v = .slice (some ⟨b, 0, none⟩) n cap ∧ N = [(b, .cells ⟨cs⟩ e (0, 0))] ∧ cs.length = cap * size ∧ n ≤ cap ∧ SegAt cs (0 + k * size) c := by
  have hkl : k < n := by have := (List.getElem?_eq_some_iff.1 hk).1; omega
  rcases h with ⟨_, rfl, _, _⟩ | ⟨b, cap, cs, rfl, rfl, hle, hcl, hxs⟩
  · omega
  · refine ⟨b, cap, cs, rfl, rfl, hcl, hle, fun j u hu => ?_⟩
    have key := flat_at hsz hk hu
    have hj : j < size := by
      have := hsz c (List.mem_of_getElem? hk)
      have := (List.getElem?_eq_some_iff.1 hu).1
      omega
    have hlt : k * size + j < n * size := by
      have : (k + 1) * size ≤ n * size := Nat.mul_le_mul_right _ (by omega)
      rw [Nat.add_mul] at this; omega
    rw [← hxs, List.getElem?_take, if_pos hlt] at key
    simpa using key
/-- one element of it stands between the others -/
theorem OS.mid {e size : Nat} {v : Value} {n : Nat} {ls : List (List Value)} {N : HL} (h : OS e size v n ls.flatten N) (hsz : ∀ l ∈ ls, l.length = size) (hl : ls.length = n) {k : Nat} {c : List Value} (hk : ls[k]? = some c) :
    ∃ b cap pre post, v = .slice (some ⟨b, 0, none⟩) n cap ∧ N = [(b, .cells ⟨pre ++ (c ++ post)⟩ e (0, 0))] ∧ pre.length = k * size ∧
      ∀ c', c'.length = size → OS e size v n (ls.set k c').flatten [(b, .cells ⟨pre ++ (c' ++ post)⟩ e (0, 0))] := by
  have hkl : k < ls.length := (List.getElem?_eq_some_iff.1 hk).1
  have hck : ls[k] = c := by rw [List.getElem?_eq_getElem hkl] at hk; exact Option.some.inj hk
  have flen : ∀ (l : List (List Value)), (∀ x ∈ l, x.length = size) → l.flatten.length = l.length * size := by
    intro l hl'
    induction l with
    | nil => simp
    | cons x l ih => rw [List.flatten_cons, List.length_append, hl' x (by simp), ih (fun y hy => hl' y (List.mem_cons_of_mem _ hy)), List.length_cons, Nat.add_mul]; omega
  rcases h with ⟨_, rfl, _, _⟩ | ⟨b, cap, cs, rfl, rfl, hle, hcl, hxs⟩
  · omega
  · have hsp : ls = ls.take k ++ (c :: ls.drop (k + 1)) := by rw [← hck, List.getElem_cons_drop, List.take_append_drop]
    have hfl : ls.flatten = (ls.take k).flatten ++ (c ++ (ls.drop (k + 1)).flatten) := by
      conv => lhs; rw [hsp]
      simp
    have hcs : cs = ls.flatten ++ cs.drop (n * size) := by rw [← hxs, List.take_append_drop]
    refine ⟨b, cap, (ls.take k).flatten, (ls.drop (k + 1)).flatten ++ cs.drop (n * size), rfl, ?_, ?_, fun c' hc' => ?_⟩
    · rw [hfl] at hcs
      simp only [List.append_assoc] at hcs
      rw [← hcs]
    · rw [flen _ (fun x hx => hsz x (List.mem_of_mem_take hx)), List.length_take, Nat.min_eq_left (by omega)]
    · refine .inr ⟨b, cap, _, rfl, rfl, hle, ?_, ?_⟩
      · have h1 := congrArg List.length hcs
        rw [hfl] at h1
        have h2 := hsz c (List.mem_of_getElem? hk)
        simp only [List.length_append] at h1 ⊢
        omega
      · have hset : ls.set k c' = ls.take k ++ (c' :: ls.drop (k + 1)) := List.set_eq_take_append_cons_drop.trans (if_pos hkl)
        have hf2 : (ls.set k c').flatten = (ls.take k).flatten ++ (c' ++ (ls.drop (k + 1)).flatten) := by rw [hset]; simp
        have hall : ∀ x ∈ ls.set k c', x.length = size := fun x hx => by
          rcases List.mem_or_eq_of_mem_set hx with hx | rfl
          · exact hsz x hx
          · exact hc'
        have hl2 := flen _ hall
        rw [List.length_set, hl] at hl2
        rw [show (ls.take k).flatten ++ (c' ++ ((ls.drop (k + 1)).flatten ++ cs.drop (n * size))) = (ls.set k c').flatten ++ cs.drop (n * size) from by rw [hf2]; simp]
        rw [← hl2, List.take_left']
        rfl
theorem swap2 (x y : Nat × Obj) (L : HL) : (x :: y :: L).Perm (y :: x :: L) := List.Perm.swap y x L
end Go.Chi
