/-
  The plain law of CacheActs: the cache and the model's list of entries stay twins under Put and Get.
-/
import Derived.Test.YtmmgbgekcpbelaaDoorCachePure
import Derived.Test.YtmmgbgekcpbelaaDoorRefPut
namespace Go.Proofs.YtmmgbgekcpbelaaDoor
open Go Go.RowKit Go.Kf

structure Twin (many : Nat) (l : List (List UInt8)) (m : List (List UInt8 × List UInt8)) (es : List EntL) : Prop where
  keys : es.map Prod.fst = l
  nodup : l.Nodup
  mnodup : (m.map Prod.fst).Nodup
  len : es.length ≤ many
  look : ∀ k, mlook k m = mlook k es

theorem Twin.init (many : Nat) : Twin many [] [] [] := ⟨rfl, List.nodup_nil, List.nodup_nil, by simp, fun _ => rfl⟩

theorem keys_others (key : List UInt8) (es : List EntL) : (others key es).map Prod.fst = without key (es.map Prod.fst) := by
  unfold others without
  rw [List.filter_map]
  rfl
theorem look_others (key k : List UInt8) : ∀ es : List EntL, mlook k (others key es) = if key = k then none else mlook k es
  | [] => by simp [others, mlook]
  | e :: es => by
    have ih := look_others key k es
    unfold others at ih ⊢
    rw [List.filter_cons]
    by_cases he : e.1 = key
    · have hd : (e.1 == key) = true := by simpa using he
      rw [hd]
      simp only [Bool.not_true, Bool.false_eq_true, if_false]
      rw [ih]
      by_cases hk : key = k
      · simp [hk]
      · rw [if_neg hk, if_neg hk]
        conv => rhs; unfold mlook
        rw [if_neg (by rw [he]; exact hk)]
    · have hd : (e.1 == key) = false := by simpa using he
      rw [hd]
      simp only [Bool.not_false, if_true]
      unfold mlook
      rw [ih]
      by_cases hk : key = k
      · rw [if_pos hk, if_pos hk, if_neg (by rw [← hk]; exact he)]
      · rw [if_neg hk, if_neg hk]
theorem look_snoc (key v k : List UInt8) : ∀ es : List EntL, mlook k (es ++ [(key, v)]) = (mlook k es).or (if key = k then some v else none)
  | [] => by simp [mlook]
  | e :: es => by
    rw [List.cons_append]
    unfold mlook
    by_cases h : e.1 = k
    · simp [h]
    · rw [if_neg h, if_neg h]
      exact look_snoc key v k es
/-- What is found behind the model's Put, before anything is dropped. -/
theorem look_put (key v k : List UInt8) (es : List EntL) : mlook k (others key es ++ [(key, v)]) = if key = k then some v else mlook k es := by
  rw [look_snoc, look_others]
  by_cases h : key = k
  · simp [h]
  · simp [h]
theorem nodup_put {key : List UInt8} {l : List (List UInt8)} (h : l.Nodup) : (without key l ++ [key]).Nodup := by
  rw [List.nodup_append]
  refine ⟨h.sublist List.filter_sublist, by simp, fun a ha b hb e => ?_⟩
  simp only [List.mem_singleton] at hb
  subst hb e
  simp [without] at ha
theorem nodup_upd (k v : List UInt8) : ∀ l : List (List UInt8 × List UInt8), (l.map Prod.fst).Nodup → ((mupd k v l).map Prod.fst).Nodup ∧ ∀ x, x ∈ (mupd k v l).map Prod.fst → x = k ∨ x ∈ l.map Prod.fst
  | [], _ => by simp [mupd]
  | p :: l, h => by
    rw [List.map_cons, List.nodup_cons] at h
    obtain ⟨i1, i2⟩ := nodup_upd k v l h.2
    unfold mupd
    by_cases he : p.1 = k
    · rw [if_pos he]
      subst he
      exact ⟨by rw [List.map_cons, List.nodup_cons]; exact h, fun x hx => by rw [List.map_cons] at hx ⊢; exact Or.inr hx⟩
    · rw [if_neg he]
      rw [List.map_cons]
      refine ⟨List.nodup_cons.2 ⟨fun hm => ?_, i1⟩, fun x hx => ?_⟩
      · rcases i2 _ hm with e | e
        · exact he e
        · exact h.1 e
      · rw [List.map_cons, List.mem_cons]
        rw [List.mem_cons] at hx
        rcases hx with e | e
        · exact Or.inr (Or.inl e)
        · rcases i2 _ e with e | e
          · exact Or.inl e
          · exact Or.inr (Or.inr e)

theorem Twin.put {many : Nat} {l : List (List UInt8)} {m : List (List UInt8 × List UInt8)} {es : List EntL} (h : Twin many l m es) (key v : List UInt8) : Twin many (putKeys many key l) (putMapL many key v l m) (refPut many key v es) := by
  have hlen : (without key l).length = (others key es).length := by rw [← h.keys, ← keys_others, List.length_map]
  have hk1 : (others key es ++ [(key, v)]).map Prod.fst = without key l ++ [key] := by rw [List.map_append, keys_others, h.keys]; rfl
  have hn1 := nodup_put (key := key) h.nodup
  have hm1 := (nodup_upd key v m h.mnodup).1
  have hl1 : ∀ k, mlook k (mupd key v m) = mlook k (others key es ++ [(key, v)]) := fun k => by rw [mlook_upd, look_put, h.look]
  have hle := others_le key es
  have hlen1 : (without key l ++ [key]).length = (others key es).length + 1 := by rw [List.length_append, hlen]; rfl
  unfold putKeys putMapL refPut
  rw [hlen1]
  by_cases hd : many < (others key es).length + 1
  · rw [if_pos hd, if_pos hd, if_pos hd]
    obtain ⟨e0, rest, hr⟩ : ∃ e0 rest, others key es ++ [(key, v)] = e0 :: rest := by
      cases others key es with
      | nil => exact ⟨_, _, rfl⟩
      | cons x l => exact ⟨_, _, rfl⟩
    rw [hr] at hk1 hl1 ⊢
    rw [List.map_cons] at hk1
    rw [← hk1] at hn1 ⊢
    refine ⟨by simp, (List.nodup_cons.1 hn1).2, ?_, ?_, fun k => ?_⟩
    · rw [mkeys_del _ _ hm1]
      exact hm1.sublist List.filter_sublist
    · have := congrArg List.length hr
      have hh := h.len
      simp at this ⊢
      omega
    · simp only [List.headD_cons, List.drop_succ_cons, List.drop_zero]
      rw [mlook_del _ _ _ hm1, hl1]
      conv => lhs; rw [show mlook k (e0 :: rest) = if e0.1 = k then some e0.2 else mlook k rest from rfl]
      by_cases he : e0.1 = k
      · rw [if_pos he]
        have hno := (List.nodup_cons.1 hn1).1
        rw [he] at hno
        exact (mlook_none.2 hno).symm
      · rw [if_neg he, if_neg he]
  · rw [if_neg hd, if_neg hd, if_neg hd]
    exact ⟨hk1, hn1, hm1, by simp; omega, hl1⟩

theorem Twin.get {many : Nat} {l : List (List UInt8)} {m : List (List UInt8 × List UInt8)} {es : List EntL} (h : Twin many l m es) (key s : List UInt8) (hs : mlook key m = some s) : Twin many (without key l ++ [key]) m (refPut many key s es) := by
  have hs' : mlook key es = some s := by rw [← h.look, hs]
  have hin : key ∈ l := by
    rcases Classical.em (key ∈ l) with h' | h'
    · exact h'
    · rw [← h.keys] at h'
      rw [mlook_none.2 h'] at hs'
      cases hs'
  have hlen : (without key l).length = (others key es).length := by rw [← h.keys, ← keys_others, List.length_map]
  have hlt := without_lt hin
  have hll : l.length = es.length := by rw [← h.keys, List.length_map]
  have hk1 : (others key es ++ [(key, s)]).map Prod.fst = without key l ++ [key] := by rw [List.map_append, keys_others, h.keys]; rfl
  have hle := h.len
  unfold refPut
  rw [if_neg (by omega)]
  refine ⟨hk1, nodup_put h.nodup, h.mnodup, by simp; omega, fun k => ?_⟩
  rw [look_put, h.look]
  by_cases he : key = k
  · rw [if_pos he, ← he, hs']
  · rw [if_neg he]
end Go.Proofs.YtmmgbgekcpbelaaDoor
