/- The plain law of DiskSafe: names synced one by one and flushed; failures of what is firm; names that are not touched. Plain data. -/
import Derived.Test.YtfgpigblnkanpaaGreatDoorDkStruck
namespace Go.Proofs.YtfgpigblnkanpaaGreatDoor

/-- A calm disk whose names are flushed and whose named files are whole. -/
structure Firm (d : Dk) : Prop where
  calm : Calm d
  pend : d.pend = []
  safe : d.safe = d.now
  whole : ∀ x ∈ d.now, Whole (fat d.files x.2)
/-- Behind the first k names synced. -/
structure SyncedTo (d0 d : Dk) (k : Nat) : Prop where
  calm : Calm d
  now : d.now = d0.now
  data : ∀ i, (fat d.files i).data = (fat d0.files i).data
  whole : ∀ j x, j < k → d0.now[j]? = some x → Whole (fat d.files x.2)
theorem SyncedTo.start {d : Dk} (h : Calm d) : SyncedTo d d 0 := ⟨h, rfl, fun _ => rfl, fun j x hj => by omega⟩
theorem SyncedTo.step {d0 d : Dk} {k : Nat} (h : SyncedTo d0 d k) (hk : DkOk d) {x : Nm × Nat} (hx : d0.now[k]? = some x) : (ddo d (.sync x.1)).2 = 0 ∧ SyncedTo d0 (ddo d (.sync x.1)).1 (k + 1) := by
  have hm : (x.1, x.2) ∈ d.now := by rw [h.now]; exact List.mem_of_getElem? hx
  have hn : tget d.now x.1 = some x.2 := tget_of_mem hk.now hm
  obtain ⟨h1, h2, _, _, h5, h6⟩ := sync_one hk h.calm hn
  refine ⟨h1, h.calm.do _, h2.trans h.now, fun i => (h5 i).trans (h.data i), fun j y hj hy => h6 _ ?_⟩
  by_cases e : j = k
  · subst e
    rw [hx] at hy
    exact Or.inr (by rw [Option.some.inj hy])
  · exact Or.inl (h.whole j y (by omega) hy)
theorem SyncedTo.flush {d0 d : Dk} (h : SyncedTo d0 d d0.now.length) : ∃ d2, ddo d .flush = (d2, 0) ∧ Firm d2 ∧ dshown d2 = dshown d0 := by
  refine ⟨_, h.calm.flush, ⟨h.calm, rfl, rfl, fun x hx => ?_⟩, ?_⟩
  · have hx' : x ∈ d0.now := by rw [← h.now]; exact hx
    obtain ⟨j, hj, e⟩ := List.getElem_of_mem hx'
    exact h.whole j x hj (by rw [List.getElem?_eq_getElem hj, e])
  · unfold dshown
    show (tnames d.now, d.now.map fun x => (fat d.files x.2).data) = _
    rw [h.now]
    congr 1
    apply List.map_congr_left
    intro x _
    exact h.data _
theorem Firm.again {d : Dk} (h : Firm d) (hk : DkOk d) (keep : List Int) : Firm (drevive (dfail d keep)) ∧ dshown (drevive (dfail d keep)) = dshown d := by
  obtain ⟨h1, h2, h3, h4⟩ := fail_still hk h.pend h.safe h.whole keep
  refine ⟨⟨⟨rfl, rfl⟩, rfl, ?_, fun x hx => ?_⟩, h1⟩
  · show (dfail d keep).safe = (dfail d keep).now
    rw [h3, h2]
  · have hx' : x ∈ d.now := by rw [← h2]; exact hx
    show Whole (fat (dfail d keep).files x.2)
    rw [h4]
    exact h.whole x hx'
/-- What is not touched is kept. -/
def Untouched (d : Dk) (ns : List Nm) (ds : List (List UInt8)) (T : List Bool) : Prop := ∀ (k : Nat) (n : Nm) (x : List UInt8), ns[k]? = some n → ds[k]? = some x → T[k]? = some false → ∃ f, Kept d n f x
theorem Firm.untouched {d : Dk} (h : Firm d) (hk : DkOk d) {ns : List Nm} {ds : List (List UInt8)} (hs : dshown d = (ns, ds)) (T : List Bool) : Untouched d ns ds T := by
  intro k n x hn hx _
  have e1 : tnames d.now = ns := congrArg Prod.fst hs
  have e2 : (d.now.map fun x => (fat d.files x.2).data) = ds := congrArg Prod.snd hs
  rw [← e1] at hn
  rw [← e2] at hx
  unfold tnames at hn
  rw [List.getElem?_map] at hn hx
  cases hy : d.now[k]? with
  | none => rw [hy] at hn; simp at hn
  | some y =>
    rw [hy] at hn hx
    have en : y.1 = n := by simpa using hn
    have ex : (fat d.files y.2).data = x := by simpa using hx
    have hm : (y.1, y.2) ∈ d.now := List.mem_of_getElem? hy
    have hg := tget_of_mem hk.now hm
    rw [en] at hg
    refine ⟨y.2, hg, by rw [h.safe]; exact hg, fun p hp => (by rw [h.pend] at hp; cases hp), ?_⟩
    have hw := h.whole _ hm
    unfold Begins
    unfold Whole at hw
    rw [hw, List.take_length, ex]
    exact List.prefix_rfl
theorem Untouched.do {d : Dk} {ns : List Nm} {ds : List (List UInt8)} {T T' : List Bool} (h : Untouched d ns ds T) (hk : DkOk d) (hc : Calm d) (o : Od)
    (ht : ∀ (k : Nat) (n : Nm), ns[k]? = some n → T'[k]? = some false → T[k]? = some false ∧ ((ddo d o).2 = 0 → ¬ otouch n o)) : Untouched (ddo d o).1 ns ds T' := by
  intro k n x hn hx hT
  obtain ⟨h1, h2⟩ := ht k n hn hT
  obtain ⟨f, hf⟩ := h k n x hn hx h1
  exact ⟨f, hf.do hk hc o h2⟩
theorem Untouched.fail {d : Dk} {ns : List Nm} {ds : List (List UInt8)} {T : List Bool} (h : Untouched d ns ds T) (hk : DkOk d) (keep : List Int) {k : Nat} {n : Nm} {x : List UInt8} (hn : ns[k]? = some n) (hx : ds[k]? = some x) (hT : T[k]? = some false) :
    ∃ s, dread (drevive (dfail d keep)) n = (s, 0) ∧ x <+: s := by
  obtain ⟨f, hf⟩ := h k n x hn hx hT
  obtain ⟨h1, h2⟩ := hf.fail hk keep
  exact ⟨_, h1, h2⟩
end Go.Proofs.YtfgpigblnkanpaaGreatDoor
