/- The records of a set, grouped, are the set. -/
import Derived.Test.YtlhbikdelbollaaRecords
namespace Go.Proofs.Ytlhbikdelbollaa

theorem byL_one (K : KeyC) : ∀ (rs l : List RRV), (∀ r ∈ rs, mayL r.said = true ∧ keyOfRR r = K) → rs.foldl byAdd [(K, l)] = [(K, l ++ rs)]
  | [], l, _ => by simp
  | r :: rs, l, h => by
    obtain ⟨h1, h2⟩ := h r (by simp)
    have e : byAdd [(K, l)] r = [(K, l ++ [r])] := by
      unfold byAdd
      rw [if_pos h1, h2]
      simp [List.modify]
    rw [List.foldl_cons, e, byL_one K rs (l ++ [r]) fun r hr => h r (by simp [hr])]
    simp
theorem byL_same (K : KeyC) (r : RRV) (rs : List RRV) (h : ∀ x ∈ r :: rs, mayL x.said = true ∧ keyOfRR x = K) : byL (r :: rs) = [(K, r :: rs)] := by
  obtain ⟨h1, h2⟩ := h r (by simp)
  have e : byAdd [] r = [(K, [r])] := by
    unfold byAdd
    rw [if_pos h1, h2]
    rfl
  rw [byL, List.foldl_cons, e, byL_one K rs [r] fun x hx => h x (by simp [hx])]
  rfl
theorem minLife_same (t : Int) : ∀ (l : List RRC), (∀ r ∈ l, lifeL r.ttl = t) → minLife t l = t
  | [], _ => rfl
  | r :: l, h => by
    have h1 := h r (by simp)
    show minLife (min t (lifeL r.ttl)) l = t
    rw [h1, Int.min_self]
    exact minLife_same t l fun r hr => h r (by simp [hr])
theorem setsOf_form {rank now : Int} {gs : List Grp} {s : SetC} (hne : ∀ g ∈ gs, g.2 ≠ []) (h : s ∈ setsOf rank now gs) : s.kind = 0 ∧ s.rank = rank ∧ s.zone = [] ∧ canSet s = true ∧ s.datas.Pairwise (fun x y => cmpN x y < 0) := by
  unfold setsOf at h
  obtain ⟨h1, h2⟩ := List.mem_filter.1 h
  obtain ⟨g, hg, rfl⟩ := List.mem_map.1 h1
  have := hne g hg
  cases hx : g.2 with
  | nil => exact absurd hx this
  | cons r t =>
    rw [hx] at h2
    exact ⟨rfl, rfl, rfl, h2, (orderL_ordered _).1⟩
theorem back_law {rank now : Int} {s : SetC} {rs : List RRV} (hk : s.kind = 0) (hr : s.rank = rank) (hz : s.zone = []) (hc : canSet s = true) (ho : s.datas.Pairwise (fun x y => cmpN x y < 0))
    (hrs : rs.map RRV.said = recordsL s now) (hf : timeL now < s.exp) (hl : s.exp ≤ timeL now + 86400) : setsOf rank now (byL rs) = [s] := by
  rw [recordsL_yes _ _ ⟨hk, hf⟩] at hrs
  have hcs := hc
  unfold canSet at hcs
  simp only [Bool.and_eq_true, decide_eq_true_eq, List.all_eq_true, hk, if_true] at hcs
  obtain ⟨⟨⟨⟨⟨⟨⟨⟨c1, _⟩, _⟩, _⟩, _⟩, c6⟩, _⟩, c8⟩, ⟨c9, _⟩, _⟩ := hcs
  unfold keyL at c1
  simp only [Bool.and_eq_true, decide_eq_true_eq] at c1
  obtain ⟨⟨⟨⟨k1, _⟩, k3⟩, k4⟩, k5⟩ := c1
  have hm : ∀ x ∈ rs, mayL x.said = true ∧ keyOfRR x = ⟨lowerL s.name, s.type, s.cls⟩ ∧ lifeL x.said.ttl = s.exp - timeL now := by
    intro x hx
    have h1 : x.said ∈ s.datas.map fun d => (⟨s.name, s.type, s.cls, s.exp - timeL now, d⟩ : RRC) := by rw [← hrs]; exact List.mem_map.2 ⟨x, hx, rfl⟩
    obtain ⟨d, hd, hd2⟩ := List.mem_map.1 h1
    have hd3 := c8 d hd
    have e1 : bytesOf x.name = s.name := (congrArg RRC.name hd2).symm
    have e2 : x.type = s.type := (congrArg RRC.type hd2).symm
    have e3 : x.cls = s.cls := (congrArg RRC.cls hd2).symm
    refine ⟨?_, ?_, ?_⟩
    · rw [← hd2]
      unfold mayL
      simp only [Bool.and_eq_true, decide_eq_true_eq]
      exact ⟨⟨⟨⟨⟨k1, c9⟩, k3⟩, k4⟩, k5⟩, hd3⟩
    · unfold keyOfRR
      rw [e1, e2, e3]
    · rw [← hd2]
      show lifeL (s.exp - timeL now) = _
      unfold lifeL
      rw [if_neg (by omega)]
      omega
  have hne : rs ≠ [] := by
    intro e
    subst e
    exact c6 (List.map_eq_nil_iff.1 hrs.symm)
  have hdat : rs.map (fun x => x.said.data) = s.datas := by
    have := congrArg (List.map RRC.data) hrs
    rw [List.map_map, List.map_map] at this
    rw [show (fun x : RRV => x.said.data) = RRC.data ∘ RRV.said from rfl, this]
    simp [Function.comp_def]
  cases rs with
  | nil => exact absurd rfl hne
  | cons r t =>
    rw [byL_same ⟨lowerL s.name, s.type, s.cls⟩ r t fun x hx => ⟨(hm x hx).1, (hm x hx).2.1⟩]
    have hset : setOf rank now ((r :: t).map RRV.said) = s := by
      have h1 : r.said ∈ s.datas.map fun d => (⟨s.name, s.type, s.cls, s.exp - timeL now, d⟩ : RRC) := by rw [← hrs]; simp
      obtain ⟨d, hd, hd2⟩ := List.mem_map.1 h1
      have hmin : minLife (lifeL r.said.ttl) ((r :: t).map RRV.said) = s.exp - timeL now := by
        rw [(hm r (by simp)).2.2]
        refine minLife_same _ _ fun y hy => ?_
        obtain ⟨x, hx, rfl⟩ := List.mem_map.1 hy
        exact (hm x hx).2.2
      have hord : orderL (((r :: t).map RRV.said).map RRC.data) = s.datas := by
        rw [List.map_map, show RRC.data ∘ RRV.said = fun x : RRV => x.said.data from rfl, hdat]
        exact (ordered_eq ⟨ho, fun _ => Iff.rfl⟩).symm
      show (⟨r.said.name, r.said.type, r.said.cls, rank, 0, timeL now + minLife (lifeL r.said.ttl) ((r :: t).map RRV.said), [], orderL (((r :: t).map RRV.said).map RRC.data)⟩ : SetC) = s
      rw [hmin, hord, ← hd2, ← hr, ← hk, ← hz, show timeL now + (s.exp - timeL now) = s.exp by omega]
    unfold setsOf
    simp only [List.map_cons, List.map_nil] at hset ⊢
    rw [hset, List.filter_cons, if_pos hc, List.filter_nil]
end Go.Proofs.Ytlhbikdelbollaa
