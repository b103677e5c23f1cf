/-
  Plain lists: the keys that were asked for last, and what a cache with room for so many holds. No program.
-/
import Derived.Test.YtmmgbgekcpbelaaDoorCachePut
namespace Go.Proofs.YtmmgbgekcpbelaaDoor
open Go Go.Kf

/-- The different texts of a list, the last one first. -/
def recent : List (List UInt8) → List (List UInt8)
  | [] => []
  | x :: l => recent l ++ (if x ∈ l then [] else [x])
theorem mem_recent {x : List UInt8} : ∀ {l : List (List UInt8)}, x ∈ recent l ↔ x ∈ l
  | [] => Iff.rfl
  | y :: l => by
    unfold recent
    rw [List.mem_append, mem_recent, List.mem_cons]
    by_cases hy : y ∈ l
    · simp only [hy, if_true, List.not_mem_nil, or_false]
      constructor
      · exact Or.inr
      · rintro (rfl | h)
        · exact hy
        · exact h
    · simp only [hy, if_false, List.mem_singleton]
      exact Or.comm
theorem nodup_recent : ∀ l : List (List UInt8), (recent l).Nodup
  | [] => List.nodup_nil
  | x :: l => by
    unfold recent
    by_cases hx : x ∈ l
    · simpa [hx] using nodup_recent l
    · simp only [hx, if_false]
      rw [List.nodup_append]
      refine ⟨nodup_recent l, by simp, fun a ha b hb => ?_⟩
      simp at hb
      subst hb
      rintro rfl
      exact hx (mem_recent.1 ha)
theorem recent_snoc (x : List UInt8) : ∀ l : List (List UInt8), recent (l ++ [x]) = x :: without x (recent l)
  | [] => by simp [recent]
  | y :: l => by
    rw [List.cons_append]
    unfold recent
    rw [recent_snoc x l]
    unfold without
    rw [List.filter_append, List.cons_append]
    congr 2
    by_cases hyx : y = x
    · subst hyx
      by_cases hy : y ∈ l <;> simp [hy]
    · by_cases hy : y ∈ l
      · simp [hy]
      · simp [hy, hyx]
theorem recent_drop (k : Nat) : ∀ l : List (List UInt8), recent (l.drop k) <+: recent l := by
  induction k with
  | zero => intro l; exact List.prefix_refl _
  | succ k ih =>
    intro l
    cases l with
    | nil => exact List.prefix_refl _
    | cons x l =>
      rw [List.drop_succ_cons]
      refine (ih l).trans ?_
      exact List.prefix_append _ _

theorem filter_take_prefix {α : Type} (p : α → Bool) (n : Nat) (l : List α) : (l.take n).filter p <+: l.filter p := by
  have h := List.take_append_drop n l
  conv => rhs; rw [← h]
  rw [List.filter_append]
  exact List.prefix_append _ _
theorem length_without {x : List UInt8} : ∀ {l : List (List UInt8)}, l.Nodup → l.length ≤ (without x l).length + 1
  | [], _ => by simp
  | y :: l, h => by
    rw [List.nodup_cons] at h
    by_cases hy : y = x
    · subst hy
      have : without y (y :: l) = l := by
        unfold without
        rw [List.filter_cons, if_neg (by simp), List.filter_eq_self]
        intro s hs
        simp only [Bool.not_eq_true', beq_eq_false_iff_ne]
        rintro rfl
        exact h.1 hs
      rw [this]; simp
    · have : without x (y :: l) = y :: without x l := by
        unfold without
        rw [List.filter_cons, if_pos (by simpa using hy)]
      rw [this]
      have := length_without (x := x) h.2
      simp only [List.length_cons]
      omega

/-- The keys behind a put. -/
theorem putKeys_recent {many : Nat} (h1 : 1 ≤ many) {K L : List (List UInt8)} (hK : K.reverse = (recent L).take many) (x : List UInt8) : (putKeys many x K).reverse = (recent (L ++ [x])).take many := by
  have hn := nodup_recent L
  rw [recent_snoc]
  generalize recent L = R at hK hn
  have hW : (without x K).reverse = without x (R.take many) := by
    unfold without
    rw [← List.filter_reverse, hK]
  have hpre := filter_take_prefix (fun s => !(s == x)) many R
  have hpt : without x (R.take many) = (without x R).take (without x (R.take many)).length := List.prefix_iff_eq_take.1 hpre
  have hlen := length_without (x := x) (hn.sublist (List.take_sublist many R))
  have hle : (without x (R.take many)).length ≤ many := Nat.le_trans (without_le _ _) (by simp; omega)
  have hwl : (without x K).length = (without x (R.take many)).length := by rw [← hW, List.length_reverse]
  obtain ⟨m, rfl⟩ : ∃ m, many = m + 1 := ⟨many - 1, by omega⟩
  unfold putKeys
  rw [List.length_append, List.length_singleton, hwl, List.take_succ_cons]
  by_cases hc : m + 1 < (without x (R.take (m + 1))).length + 1
  · rw [if_pos hc]
    have hl : (without x (R.take (m + 1))).length = m + 1 := by omega
    rw [hl] at hpt
    have : (without x K ++ [x]).tail.reverse = x :: (without x K).reverse.dropLast := by
      cases hk : without x K with
      | nil => rw [hk] at hwl; simp at hwl; omega
      | cons y l => simp
    rw [this, hW, List.dropLast_eq_take, hl, hpt, List.take_take]
    simp
  · rw [if_neg hc, List.reverse_append, hW]
    simp only [List.reverse_cons, List.reverse_nil, List.nil_append, List.singleton_append, List.cons.injEq, true_and]
    by_cases hk : (without x (R.take (m + 1))).length = m
    · rw [hk] at hpt; exact hpt
    · have hRl : R.length ≤ m := by
        rw [List.length_take] at hlen
        omega
      rw [List.take_of_length_le (by omega), List.take_of_length_le]
      exact Nat.le_trans (without_le _ _) hRl

/-- What holds of a cache and of the two lists of what was asked of it. -/
structure Inv (many : Nat) (K : List (List UInt8)) (M : List (List UInt8 × List UInt8)) (L Bs : List (List UInt8)) : Prop where
  keys : K.reverse = (recent L).take many
  mem : ∀ x, x ∈ M.map Prod.fst ↔ x ∈ K
  nodup : (M.map Prod.fst).Nodup
  len : Bs.length = L.length
  val : ∀ (i : Nat) (h : i < L.length), L[i] ∉ L.drop (i + 1) → L[i] ∈ K → mlook L[i] M = Bs[i]?

theorem Inv.init (many : Nat) : Inv many [] [] [] [] := ⟨by simp [recent], by simp, by simp, rfl, by simp⟩
theorem Inv.nodupK {many : Nat} {K : List (List UInt8)} {M : List (List UInt8 × List UInt8)} {L Bs : List (List UInt8)} (h : Inv many K M L Bs) : K.Nodup := by
  have := (nodup_recent L).sublist (List.take_sublist many _)
  rw [← h.keys] at this
  exact (List.pairwise_reverse.1 this).imp Ne.symm
theorem Inv.le {many : Nat} {K : List (List UInt8)} {M : List (List UInt8 × List UInt8)} {L Bs : List (List UInt8)} (h : Inv many K M L Bs) : K.length ≤ many := by
  have := congrArg List.length h.keys
  rw [List.length_reverse, List.length_take] at this
  omega

theorem mem_without {x y : List UInt8} {K : List (List UInt8)} : y ∈ without x K ↔ y ∈ K ∧ y ≠ x := by
  unfold without
  rw [List.mem_filter]
  simp
theorem without_lt {x : List UInt8} {K : List (List UInt8)} (hx : x ∈ K) : (without x K).length < K.length := by
  unfold without
  rw [List.length_filter_lt_length_iff_exists]
  exact ⟨x, hx, by simp⟩
theorem putKeys_mem {many : Nat} {x y : List UInt8} {K : List (List UInt8)} (h : y ∈ putKeys many x K) : y = x ∨ y ∈ K := by
  unfold putKeys at h
  have h' : y ∈ without x K ++ [x] := by
    split at h
    · exact List.mem_of_mem_tail h
    · exact h
  rw [List.mem_append, List.mem_singleton] at h'
  rcases h' with h' | h'
  · exact Or.inr (mem_without.1 h').1
  · exact Or.inl h'
theorem without_snoc (x : List UInt8) (K : List (List UInt8)) : without x (without x K ++ [x]) = without x K := by
  unfold without
  rw [List.filter_append, List.filter_filter]
  simp

/-- A put keeps what holds. -/
theorem Inv.put {many : Nat} (h1 : 1 ≤ many) {K : List (List UInt8)} {M : List (List UInt8 × List UInt8)} {L Bs : List (List UInt8)} (h : Inv many K M L Bs) (x b : List UInt8) :
    Inv many (putKeys many x K) (putMapL many x b K M) (L ++ [x]) (Bs ++ [b]) := by
  have hnK := h.nodupK
  have hnW : (without x K ++ [x]).Nodup := by
    rw [List.nodup_append]
    exact ⟨hnK.sublist List.filter_sublist, by simp, fun a ha c hc => by simp at hc; subst hc; exact (mem_without.1 ha).2⟩
  have hmu : ∀ y, y ∈ (mupd x b M).map Prod.fst ↔ y ∈ without x K ++ [x] := by
    intro y
    rw [mkeys_upd, List.mem_append, List.mem_singleton, mem_without]
    have hm := h.mem y
    have hmx := h.mem x
    by_cases hx : x ∈ M.map Prod.fst
    · rw [if_pos hx, hm]
      constructor
      · intro hy
        by_cases hyx : y = x
        · exact Or.inr hyx
        · exact Or.inl ⟨hy, hyx⟩
      · rintro (h' | rfl)
        · exact h'.1
        · exact hmx.1 hx
    · rw [if_neg hx, List.mem_append, List.mem_singleton, hm]
      constructor
      · rintro (hy | hy)
        · by_cases hyx : y = x
          · exact Or.inr hyx
          · exact Or.inl ⟨hy, hyx⟩
        · exact Or.inr hy
      · rintro (h' | hy)
        · exact Or.inl h'.1
        · exact Or.inr hy
  have hnu : ((mupd x b M).map Prod.fst).Nodup := by
    rw [mkeys_upd]
    by_cases hx : x ∈ M.map Prod.fst
    · rw [if_pos hx]; exact h.nodup
    · rw [if_neg hx, List.nodup_append]
      exact ⟨h.nodup, by simp, fun a ha c hc => by simp at hc; subst hc; rintro rfl; exact hx ha⟩
  have hlk : ∀ y, y ∈ putKeys many x K → mlook y (putMapL many x b K M) = if x = y then some b else mlook y M := by
    intro y hy
    unfold putKeys at hy
    unfold putMapL
    by_cases hc : many < (without x K ++ [x]).length
    · rw [if_pos hc] at hy ⊢
      rw [mlook_del _ _ _ hnu, mlook_upd, if_neg]
      intro e
      cases hW : without x K ++ [x] with
      | nil => rw [hW] at hy; simp at hy
      | cons z l =>
        rw [hW] at hy e hnW
        rw [List.nodup_cons] at hnW
        simp only [List.headD_cons] at e
        rw [e] at hnW
        exact hnW.1 hy
    · rw [if_neg hc, mlook_upd]
  refine ⟨putKeys_recent h1 h.keys x, ?_, ?_, by simp [h.len], ?_⟩
  · intro y
    unfold putMapL putKeys
    by_cases hc : many < (without x K ++ [x]).length
    · rw [if_pos hc, if_pos hc, mkeys_del _ _ hnu, List.mem_filter, hmu]
      cases hW : without x K ++ [x] with
      | nil => simp
      | cons z l =>
        rw [hW, List.nodup_cons] at hnW
        simp only [List.headD_cons, List.tail_cons, List.mem_cons]
        constructor
        · rintro ⟨rfl | h', h2⟩
          · simp at h2
          · exact h'
        · intro h'
          refine ⟨Or.inr h', decide_eq_true ?_⟩
          rintro rfl
          exact hnW.1 h'
    · rw [if_neg hc, if_neg hc, hmu]
  · unfold putMapL
    by_cases hc : many < (without x K ++ [x]).length
    · rw [if_pos hc, mkeys_del _ _ hnu]
      exact hnu.sublist List.filter_sublist
    · rw [if_neg hc]; exact hnu
  · intro i hi hno hin
    rw [hlk _ hin]
    simp only [List.length_append, List.length_singleton] at hi
    by_cases hil : i < L.length
    · have e1 : (L ++ [x])[i] = L[i] := List.getElem_append_left hil
      rw [e1] at hno hin ⊢
      rw [List.drop_append_of_le_length (by omega), List.mem_append, List.mem_singleton, not_or] at hno
      rw [if_neg (fun e => hno.2 e.symm), h.val i hil hno.1 ((putKeys_mem hin).resolve_left hno.2), List.getElem?_append_left (by rw [h.len]; exact hil)]
    · obtain rfl : i = L.length := by omega
      have e1 : (L ++ [x])[L.length] = x := by simp
      rw [e1, if_pos rfl, List.getElem?_append_right (by rw [h.len]; exact Nat.le_refl _)]
      simp [h.len]

/-- A get that finds keeps what holds. -/
theorem Inv.got {many : Nat} (h1 : 1 ≤ many) {K : List (List UInt8)} {M : List (List UInt8 × List UInt8)} {L Bs : List (List UInt8)} (h : Inv many K M L Bs) {x v : List UInt8} (hx : mlook x M = some v) :
    Inv many (without x K ++ [x]) M (L ++ [x]) (Bs ++ [v]) := by
  have hxm : x ∈ M.map Prod.fst := by
    rcases Classical.em (x ∈ M.map Prod.fst) with h' | h'
    · exact h'
    · rw [mlook_none.2 h'] at hx; cases hx
  have hxK : x ∈ K := (h.mem x).1 hxm
  have hlen : ¬ many < (without x K ++ [x]).length := by
    have hle := h.le
    have := without_lt hxK
    simp
    omega
  have hk := putKeys_recent h1 h.keys x
  unfold putKeys at hk
  rw [if_neg hlen] at hk
  have hmem : ∀ y, y ∈ without x K ++ [x] ↔ y ∈ K := by
    intro y
    rw [List.mem_append, List.mem_singleton, mem_without]
    constructor
    · rintro (h' | rfl)
      · exact h'.1
      · exact hxK
    · intro hy
      by_cases hyx : y = x
      · exact Or.inr hyx
      · exact Or.inl ⟨hy, hyx⟩
  refine ⟨hk, fun y => by rw [h.mem, hmem], h.nodup, by simp [h.len], ?_⟩
  intro i hi hno hin
  simp only [List.length_append, List.length_singleton] at hi
  by_cases hil : i < L.length
  · have e1 : (L ++ [x])[i] = L[i] := List.getElem_append_left hil
    rw [e1] at hno hin ⊢
    rw [List.drop_append_of_le_length (by omega), List.mem_append, List.mem_singleton, not_or] at hno
    rw [h.val i hil hno.1 ((hmem _).1 hin), List.getElem?_append_left (by rw [h.len]; exact hil)]
  · obtain rfl : i = L.length := by omega
    have e1 : (L ++ [x])[L.length] = x := by simp
    rw [e1, hx, List.getElem?_append_right (by rw [h.len]; exact Nat.le_refl _)]
    simp [h.len]

/-- What a get changes of the keys changes nothing of what is told in the second loop. -/
structure Keeps (many : Nat) (K : List (List UInt8)) (M : List (List UInt8 × List UInt8)) : Prop where
  mem : ∀ x, x ∈ M.map Prod.fst ↔ x ∈ K
  nodup : K.Nodup
  le : K.length ≤ many
theorem Inv.keeps {many : Nat} {K : List (List UInt8)} {M : List (List UInt8 × List UInt8)} {L Bs : List (List UInt8)} (h : Inv many K M L Bs) : Keeps many K M := ⟨h.mem, h.nodupK, h.le⟩
theorem Keeps.got {many : Nat} {K : List (List UInt8)} {M : List (List UInt8 × List UInt8)} (h : Keeps many K M) (x : List UInt8) : Keeps many (if (mlook x M).isSome then without x K ++ [x] else K) M := by
  cases hx : mlook x M with
  | none => exact h
  | some v =>
    simp only [Option.isSome_some, if_true]
    have hxm : x ∈ M.map Prod.fst := by
      rcases Classical.em (x ∈ M.map Prod.fst) with h' | h'
      · exact h'
      · rw [mlook_none.2 h'] at hx; cases hx
    have hxK : x ∈ K := (h.mem x).1 hxm
    have hlt := without_lt hxK
    refine ⟨fun y => ?_, ?_, by have := h.le; simp; omega⟩
    · rw [h.mem, List.mem_append, List.mem_singleton, mem_without]
      constructor
      · intro hy
        by_cases hyx : y = x
        · exact Or.inr hyx
        · exact Or.inl ⟨hy, hyx⟩
      · rintro (h' | rfl)
        · exact h'.1
        · exact hxK
    · rw [List.nodup_append]
      exact ⟨h.nodup.sublist List.filter_sublist, by simp, fun a ha c hc => by simp at hc; subst hc; exact (mem_without.1 ha).2⟩

/-- THE PLAIN LAW: the last keys, each once, so many as there is room for, are there with their last bytes. -/
theorem Inv.there {many : Nat} {K : List (List UInt8)} {M : List (List UInt8 × List UInt8)} {L Bs : List (List UInt8)} (h : Inv many K M L Bs) (i : Nat) (hi : i < L.length) (hno : L[i] ∉ L.drop (i + 1)) (hlt : (recent (L.drop (i + 1))).length < many) :
    mlook L[i] M = Bs[i]? := by
  refine h.val i hi hno ?_
  have hpre := recent_drop i L
  have e : L.drop i = L[i] :: L.drop (i + 1) := List.drop_eq_getElem_cons hi
  rw [e] at hpre
  have hr : recent (L[i] :: L.drop (i + 1)) = recent (L.drop (i + 1)) ++ [L[i]] := by
    rw [recent, if_neg hno]
  rw [hr] at hpre
  have hin : L[i] ∈ (recent L).take many := by
    obtain ⟨t, ht⟩ := hpre
    rw [← ht, List.append_assoc, List.take_append]
    rw [List.mem_append]
    right
    obtain ⟨m, hm⟩ : ∃ m, many - (recent (L.drop (i + 1))).length = m + 1 := ⟨many - (recent (L.drop (i + 1))).length - 1, by omega⟩
    rw [hm]
    simp
  rw [← h.keys, List.mem_reverse] at hin
  exact hin
end Go.Proofs.YtmmgbgekcpbelaaDoor
