/- What stands of a journal on a disk through failures. Plain data. The walk of the journal's Reset. -/
import Derived.Test.YtfgpigblnkanpaaGreatDoorHI
import Derived.StillTailTactics
namespace Go.Proofs.YtfgpigblnkanpaaGreatDoor
set_option linter.unusedVariables false
set_option linter.unusedSimpArgs false

/-- The power is on: one name alone, safe, of these bytes; perhaps something is armed. -/
structure Stand (d : Dk) (n : Nm) (x : List UInt8) : Prop where
  on : d.off = false
  ok : DkOk d
  pend : d.pend = []
  same : d.safe = d.now
  one : ∃ f, d.now = [(n, f)] ∧ fat d.files f = ⟨x, x.length⟩
/-- The power is off: the name is there, perhaps its hand. -/
structure Fell (d : Dk) (n : Nm) (x : List UInt8) : Prop where
  off : d.off = true
  ok : DkOk d
  armed : d.armed = 0
  pend : d.pend = []
  same : d.safe = d.now
  one : ∃ f, fat d.files f = ⟨x, x.length⟩ ∧ (d.now = [(n, f)] ∨ ∃ g, d.now = [(n, f), (jhandN n, g)])
theorem fl_eq {f : Fl} {x : List UInt8} (h1 : f.data = x) (h2 : Whole f) : f = ⟨x, x.length⟩ := by
  cases f
  simp only [Whole] at h2
  simp only at h1
  subst h1
  rw [h2]
/-- What a failure leaves of a file. -/
theorem dfiles_cut (keep : List Int) : ∀ (t : Tb) (k : Nat) (fs : List Fl) (f : Nat), (∀ x ∈ t, x.2 < fs.length) → (∃ x ∈ t, x.2 = f) → ∃ q, fat (dfiles keep t k fs) f = dcut (fat fs f) q
  | [], _, fs, f, _, h => by obtain ⟨x, hx, _⟩ := h; cases hx
  | x :: r, k, fs, f, hl, h => by
    rw [dfiles]
    have hx := hl x List.mem_cons_self
    have hl2 : ∀ y ∈ r, y.2 < (fs.set x.2 (dcut (fat fs x.2) (keepAt keep k))).length := fun y hy => by rw [List.length_set]; exact hl y (List.mem_cons_of_mem _ hy)
    by_cases hr : ∃ y ∈ r, y.2 = f
    · obtain ⟨q, hq⟩ := dfiles_cut keep r (k + 1) _ f hl2 hr
      rw [fat_set _ _ _ _ hx] at hq
      by_cases e : x.2 = f
      · subst e
        rw [if_pos rfl, dcut_same (dcut_whole _ _)] at hq
        exact ⟨_, hq⟩
      · rw [if_neg e] at hq
        exact ⟨q, hq⟩
    · have e : x.2 = f := by
        obtain ⟨y, hy, e⟩ := h
        rcases List.mem_cons.1 hy with rfl | hy
        · exact e
        · exact absurd ⟨y, hy, e⟩ hr
      have hkeep : ∀ (t : Tb) (k : Nat) (fs : List Fl), (∀ x ∈ t, x.2 < fs.length) → (¬ ∃ x ∈ t, x.2 = f) → fat (dfiles keep t k fs) f = fat fs f := by
        intro t
        induction t with
        | nil => intro k fs _ _; rfl
        | cons y t ih =>
          intro k fs h1 h2
          rw [dfiles, ih (k + 1) _ (fun z hz => by rw [List.length_set]; exact h1 z (List.mem_cons_of_mem _ hz)) (fun ⟨z, hz, e⟩ => h2 ⟨z, List.mem_cons_of_mem _ hz, e⟩), fat_set _ _ _ _ (h1 y List.mem_cons_self), if_neg (fun e => h2 ⟨y, List.mem_cons_self, e⟩)]
      rw [hkeep r (k + 1) _ hl2 hr, fat_set _ _ _ _ hx, if_pos e, e]
      exact ⟨_, rfl⟩
/-- A failure behind which the name is there. -/
theorem fell_of {d : Dk} {n : Nm} (hk : DkOk d) (keep : List Int) {f : Nat} (hT : dpend keep d.pend 0 d.safe = [(n, f)] ∨ ∃ g, dpend keep d.pend 0 d.safe = [(n, f), (jhandN n, g)]) : ∃ q, Fell (dfail d keep) n (dleft (fat d.files f) q) := by
  have hin := dpend_in keep d.files.length d.pend 0 d.safe hk.safeIn hk.pendIn
  have hmem : ∃ x ∈ dpend keep d.pend 0 d.safe, x.2 = f := by
    rcases hT with h | ⟨g, h⟩ <;> rw [h] <;> exact ⟨(n, f), List.mem_cons_self, rfl⟩
  obtain ⟨q, hq⟩ := dfiles_cut keep _ d.pend.length d.files f hin hmem
  refine ⟨q, rfl, hk.fail keep, rfl, rfl, rfl, f, ?_, hT⟩
  show fat (dfiles keep (dpend keep d.pend 0 d.safe) d.pend.length d.files) f = _
  rw [hq]
  rfl
theorem Stand.fall {d : Dk} {n : Nm} {x : List UInt8} (h : Stand d n x) (keep : List Int) : Fell (dfail d keep) n x := by
  obtain ⟨f, h1, h2⟩ := h.one
  obtain ⟨q, hq⟩ := fell_of h.ok keep (n := n) (f := f) (Or.inl (by rw [h.pend, h.same, h1]; rfl))
  rwa [h2, dleft_whole (by rfl)] at hq
theorem Stand.armed {d : Dk} {n : Nm} {x : List UInt8} (h : Stand d n x) (k : Nat) (l : List Int) : Stand { d with armed := k, fate := l } n x := ⟨h.on, ⟨h.ok.now, h.ok.safe, h.ok.nowIn, h.ok.safeIn, h.ok.pendIn, h.ok.safeLe⟩, h.pend, h.same, h.one⟩
/-- A file that has been written to, and not synced. -/
theorem dleft_wrote (x s : List UInt8) (q : Int) : ∃ t, dleft ⟨x ++ s, x.length⟩ q = x ++ t ∧ (t = [] ∨ t = s ∨ t = s.take (s.length / 2) ∨ t = List.replicate s.length 0) := by
  unfold dleft
  simp only
  split
  · exact ⟨[], by simp, Or.inl rfl⟩
  · split
    · exact ⟨s, rfl, Or.inr (Or.inl rfl)⟩
    · split
      · refine ⟨s.take (s.length / 2), ?_, Or.inr (Or.inr (Or.inl rfl))⟩
        rw [List.take_append, List.take_of_length_le (by omega)]
        congr 2
        simp
      · refine ⟨List.replicate s.length 0, ?_, Or.inr (Or.inr (Or.inr rfl))⟩
        rw [List.take_append_of_le_length (Nat.le_refl _), List.take_length]
        simp
/-- The records of what a write of a frame leaves. -/
theorem jbegin_wrote {l : List (List UInt8)} {r : List UInt8} (hl : ∀ x ∈ l, x.length ≤ 16777216) (hr : r.length ≤ 16777216) {t : List UInt8} (ht : t = [] ∨ t = jframe r ∨ t = (jframe r).take ((jframe r).length / 2) ∨ t = List.replicate (jframe r).length 0) :
    (jbegin (jframes l ++ t)).1 = l ∨ (jbegin (jframes l ++ t)).1 = l ++ [r] := by
  have hfl := jframe_len r
  rw [jbegin_frames l t hl]
  have hnil : ∀ u, jnext u = none → l ++ (jbegin u).1 = l := fun u hu => by rw [jbegin_none hu]; simp
  rcases ht with rfl | rfl | rfl | rfl
  · exact Or.inl (by rw [jbegin_nil]; simp)
  · refine Or.inr ?_
    have := jbegin_all (l := [r]) (fun x hx => by simp at hx; rw [hx]; exact hr)
    rw [show jframes [r] = jframe r from by simp [jframes]] at this
    rw [this]
  · exact Or.inl (hnil _ (jnext_cut hr (by omega)))
  · refine Or.inl (hnil _ ?_)
    obtain ⟨k, hk⟩ : ∃ k, (jframe r).length = k + 1 := ⟨(jframe r).length - 1, by omega⟩
    rw [hk, List.replicate_succ]
    exact jnext_zero _
theorem jbegin_take : ∀ (k : Nat) (t : List UInt8), t.length ≤ k → t.take (jbegin t).2 = jframes (jbegin t).1 ∧ ∀ r ∈ (jbegin t).1, r.length ≤ 16777216
  | 0, t, h => by
    have : t = [] := List.eq_nil_of_length_eq_zero (by omega)
    subst this
    exact ⟨rfl, fun r hr => by cases hr⟩
  | k + 1, t, h => by
    cases hn : jnext t with
    | none => rw [jbegin_none hn]; exact ⟨rfl, fun r hr => by cases hr⟩
    | some p =>
      obtain ⟨r, m⟩ := p
      obtain ⟨h1, h2, h3, h4⟩ := jnext_le hn
      obtain ⟨h5, h6⟩ := jbegin_take k (t.drop m) (by rw [List.length_drop]; omega)
      rw [jbegin_some hn]
      refine ⟨?_, fun y hy => ?_⟩
      · rw [jframes_cons, ← h5, h4]
        simp only
        rw [List.take_add]
      · rcases List.mem_cons.1 hy with rfl | hy
        · exact h3
        · exact h6 y hy
/-! ### an operation while something may be armed -/
theorem ddo_any {d : Dk} (on : d.off = false) {o : Od} (hr : drefused d o = 0) : (d.armed = 1 ∧ ddo d o = (dfail (dact { d with armed := 0 } true o) d.fate, 20)) ∨ (d.armed ≠ 1 ∧ ddo d o = (dact { d with armed := d.armed - 1 } false o, 0)) := by
  unfold ddo
  rw [if_neg (by rw [on]; simp), if_neg (by omega)]
  by_cases h : d.armed = 1
  · rw [if_pos h, h]; exact Or.inl ⟨rfl, rfl⟩
  · rw [if_neg h]; exact Or.inr ⟨h, rfl⟩
theorem Stand.get {d : Dk} {n : Nm} {x : List UInt8} (h : Stand d n x) : ∃ f, d.now = [(n, f)] ∧ d.safe = [(n, f)] ∧ d.pend = [] ∧ fat d.files f = ⟨x, x.length⟩ ∧ tget d.now n = some f ∧ f < d.files.length := by
  obtain ⟨f, h1, h2⟩ := h.one
  exact ⟨f, h1, h.same.trans h1, h.pend, h2, by rw [h1, tget_cons, if_pos rfl], h.ok.nowIn (n, f) (by rw [h1]; simp)⟩
theorem Stand.sync {d : Dk} {n : Nm} {x : List UInt8} (h : Stand d n x) : ((ddo d (.sync n)).2 = 20 ∧ Fell (ddo d (.sync n)).1 n x ∧ d.armed = 1) ∨ ((ddo d (.sync n)).2 = 0 ∧ Stand (ddo d (.sync n)).1 n x ∧ (d.armed = 0 → (ddo d (.sync n)).1.armed = 0)) := by
  obtain ⟨f, h1, h2, h3, h4, h5, h6⟩ := h.get
  have hr : drefused d (.sync n) = 0 := by simp [drefused, h5]
  have hok := h.ok.do (.sync n)
  rcases ddo_any h.on hr with ⟨ha, e⟩ | ⟨ha, e⟩
  · rw [e]
    exact Or.inl ⟨rfl, (h.armed 0 d.fate).fall _, ha⟩
  · rw [e] at hok ⊢
    refine Or.inr ⟨rfl, ⟨h.on, hok, h3, h.same, f, h1, ?_⟩, fun h0 => ?_⟩
    · show fat (fmod d.files ((tget d.now n).getD 0) fun f => ⟨f.data, f.data.length⟩) f = _
      rw [h5]
      show fat (fmod d.files f _) f = _
      rw [fat_fmod _ _ _ _ h6, if_pos rfl, h4]
    · show d.armed - 1 = 0
      omega
theorem Stand.flush {d : Dk} {n : Nm} {x : List UInt8} (h : Stand d n x) : ((ddo d .flush).2 = 20 ∧ Fell (ddo d .flush).1 n x ∧ d.armed = 1) ∨ ((ddo d .flush).2 = 0 ∧ Stand (ddo d .flush).1 n x ∧ (d.armed = 0 → (ddo d .flush).1.armed = 0)) := by
  obtain ⟨f, h1, h2, h3, h4, h5, h6⟩ := h.get
  have hok := h.ok.do .flush
  rcases ddo_any h.on (o := .flush) rfl with ⟨ha, e⟩ | ⟨ha, e⟩
  · rw [e]
    exact Or.inl ⟨rfl, (h.armed 0 d.fate).fall _, ha⟩
  · rw [e] at hok ⊢
    exact Or.inr ⟨rfl, ⟨h.on, hok, rfl, rfl, f, h1, h4⟩, fun h0 => by show d.armed - 1 = 0; omega⟩
/-! ### Append -/
theorem Stand.write {d : Dk} {n : Nm} {x s : List UInt8} (h : Stand d n x) : (ddo d (.write n s) = (d, 19)) ∨ (d.armed = 1 ∧ (ddo d (.write n s)).2 = 20 ∧ ∃ q, Fell (ddo d (.write n s)).1 n (dleft ⟨x ++ s, x.length⟩ q)) ∨
    (d.armed ≠ 1 ∧ ∃ f, (ddo d (.write n s)).2 = 0 ∧ (ddo d (.write n s)).1.off = false ∧ DkOk (ddo d (.write n s)).1 ∧ (ddo d (.write n s)).1.now = [(n, f)] ∧ (ddo d (.write n s)).1.safe = [(n, f)] ∧ (ddo d (.write n s)).1.pend = [] ∧ fat (ddo d (.write n s)).1.files f = ⟨x ++ s, x.length⟩ ∧ f < (ddo d (.write n s)).1.files.length) := by
  obtain ⟨f, h1, h2, h3, h4, h5, h6⟩ := h.get
  by_cases hfull : d.room < dused d + s.length
  · have hr : drefused d (.write n s) = 19 := by
      show (if (tget d.now n).isSome = false then 18 else if d.room < dused d + s.length then 19 else 0) = 19
      rw [h5, if_neg (by simp), if_pos hfull]
    left
    rw [ddo_no h.on (by omega), hr]
  · have hr : drefused d (.write n s) = 0 := by
      show (if (tget d.now n).isSome = false then 18 else if d.room < dused d + s.length then 19 else 0) = 0
      rw [h5, if_neg (by simp), if_neg hfull]
    have hf : ∀ (k : Nat) (b : Bool), fat (dact { d with armed := k } b (.write n s)).files f = ⟨x ++ s, x.length⟩ := fun k b => by
      show fat (fmod d.files ((tget d.now n).getD 0) fun f => ⟨f.data ++ s, f.safe⟩) f = _
      rw [h5]
      show fat (fmod d.files f _) f = _
      rw [fat_fmod _ _ _ _ h6, if_pos rfl, h4]
    have hok := h.ok.do (.write n s)
    rcases ddo_any h.on hr with ⟨ha, e⟩ | ⟨ha, e⟩
    · refine Or.inr (Or.inl ⟨ha, by rw [e], ?_⟩)
      rw [e]
      have hk : DkOk (dact { d with armed := 0 } true (.write n s)) := (h.ok.armed 0).act true (.write n s) (by rw [drefused_armed]; exact hr)
      obtain ⟨q, hq⟩ := fell_of hk d.fate (n := n) (f := f) (Or.inl (by show dpend d.fate d.pend 0 d.safe = _; rw [h3, h2]; rfl))
      rw [hf] at hq
      exact ⟨q, hq⟩
    · refine Or.inr (Or.inr ⟨ha, f, ?_⟩)
      rw [e] at hok ⊢
      exact ⟨rfl, h.on, hok, h1, h2, h3, hf _ false, hok.nowIn (n, f) (by show (n, f) ∈ d.now; rw [h1]; simp)⟩
theorem jappend_stand {d : Dk} {n : Nm} {l : List (List UInt8)} (h : Stand d n (jframes l)) (hl : ∀ x ∈ l, x.length ≤ 16777216) (k : Nat) (r : List UInt8) :
    ((jappend d n k false r).e ≠ 0 ∧ (jappend d n k false r).e ≠ 20 ∧ (jappend d n k false r).c = false ∧ Stand (jappend d n k false r).d n (jframes l)) ∨
    ((jappend d n k false r).e = 0 ∧ (jappend d n k false r).c = false ∧ r.length ≤ 16777216 ∧ Stand (jappend d n k false r).d n (jframes (l ++ [r]))) ∨
    ((jappend d n k false r).e = 20 ∧ r.length ≤ 16777216 ∧ ∃ y, Fell (jappend d n k false r).d n y ∧ ((jbegin y).1 = l ∨ (jbegin y).1 = l ++ [r])) := by
  unfold jappend
  rw [if_neg (by simp)]
  by_cases hr : 16777216 < r.length
  · rw [if_pos hr]; exact Or.inl ⟨by simp, by simp, rfl, h⟩
  · rw [if_neg hr]
    have hr : r.length ≤ 16777216 := by omega
    rcases h.write (s := jframe r) with e | ⟨ha, e, q, hq⟩ | ⟨ha, f, e, w1, w2, w3, w4, w5, w6, w7⟩
    · rw [e]; exact Or.inl ⟨by simp, by simp, rfl, h⟩
    · rw [e, if_neg (by simp), if_pos (by simp)]
      obtain ⟨t, ht, hc⟩ := dleft_wrote (jframes l) (jframe r) q
      rw [ht] at hq
      exact Or.inr (Or.inr ⟨rfl, hr, _, hq, jbegin_wrote hl hr hc⟩)
    · rw [e, if_neg (by simp), if_neg (by simp)]
      generalize (ddo d (.write n (jframe r))).1 = d1 at *
      have hg : tget d1.now n = some f := by rw [w3, tget_cons, if_pos rfl]
      have hrs : drefused d1 (.sync n) = 0 := by simp [drefused, hg]
      have hok := w2.do (.sync n)
      rcases ddo_any w1 hrs with ⟨ha, e⟩ | ⟨ha, e⟩
      · rw [e, if_pos (by simp)]
        have hk : DkOk (dact { d1 with armed := 0 } true (.sync n)) := (w2.armed 0).act true (.sync n) (by rw [drefused_armed]; exact hrs)
        obtain ⟨q, hq⟩ := fell_of hk d1.fate (n := n) (f := f) (Or.inl (by show dpend d1.fate d1.pend 0 d1.safe = _; rw [w5, w4]; rfl))
        rw [show fat (dact { d1 with armed := 0 } true (.sync n)).files f = fat d1.files f from rfl, w6] at hq
        obtain ⟨t, ht, hc⟩ := dleft_wrote (jframes l) (jframe r) q
        rw [ht] at hq
        exact Or.inr (Or.inr ⟨rfl, hr, _, hq, jbegin_wrote hl hr hc⟩)
      · rw [e] at hok ⊢
        rw [if_neg (by simp)]
        refine Or.inr (Or.inl ⟨rfl, rfl, hr, w1, hok, w5, w4.trans w3.symm, f, w3, ?_⟩)
        show fat (fmod d1.files ((tget d1.now n).getD 0) fun f => ⟨f.data, f.data.length⟩) f = _
        rw [hg]
        show fat (fmod d1.files f _) f = _
        rw [fat_fmod _ _ _ _ w7, if_pos rfl, w6, jframes_append]
        simp [jframes]
/-! ### Reset -/
def jreset (d : Dk) (nm : Nm) (n : Nat) (c : Bool) : Jr :=
  if c = true then ⟨d, 23, c, n⟩
  else if (ddo d (.create (jhandN nm))).2 ≠ 0 then ⟨(ddo d (.create (jhandN nm))).1, (ddo d (.create (jhandN nm))).2, true, n⟩
  else if (ddo (ddo d (.create (jhandN nm))).1 (.rename (jhandN nm) nm)).2 ≠ 0 then ⟨(ddo (ddo d (.create (jhandN nm))).1 (.rename (jhandN nm) nm)).1, (ddo (ddo d (.create (jhandN nm))).1 (.rename (jhandN nm) nm)).2, true, n⟩
  else if (ddo (ddo (ddo d (.create (jhandN nm))).1 (.rename (jhandN nm) nm)).1 .flush).2 ≠ 0 then ⟨(ddo (ddo (ddo d (.create (jhandN nm))).1 (.rename (jhandN nm) nm)).1 .flush).1, (ddo (ddo (ddo d (.create (jhandN nm))).1 (.rename (jhandN nm) nm)).1 .flush).2, true, n⟩
  else ⟨(ddo (ddo (ddo d (.create (jhandN nm))).1 (.rename (jhandN nm) nm)).1 .flush).1, 0, c, 0⟩
/-- A hand has been made, and perhaps laid in the name's place. -/
structure Hanging (d : Dk) (n : Nm) (x : List UInt8) (laid : Bool) : Prop where
  on : d.off = false
  ok : DkOk d
  two : ∃ f h, d.safe = [(n, f)] ∧ fat d.files f = ⟨x, x.length⟩ ∧ fat d.files h = ⟨[], 0⟩ ∧ f ≠ h ∧ h < d.files.length ∧ d.now = (if laid = true then [(n, h)] else [(n, f), (jhandN n, h)]) ∧ d.pend = (if laid = true then [.cr (jhandN n) h, .rn (jhandN n) n] else [.cr (jhandN n) h])
theorem tins_hand {n : Nm} (f h : Nat) : tins [(n, f)] (jhandN n) h = [(n, f), (jhandN n, h)] := by
  have := jhandN_lt n
  unfold tins
  simp [this, nlt_asymm this]
theorem tdone_laid {n : Nm} (f h : Nat) : tdone [(n, f), (jhandN n, h)] (.rn (jhandN n) n) = [(n, h)] := by
  have hne := nlt_ne (jhandN_lt n)
  simp only [tdone]
  rw [tget_cons, if_neg (by exact hne), tget_cons, if_pos rfl]
  simp [tout, tins, hne, nlt_irrefl]
theorem tdone_none {n : Nm} (f : Nat) : tdone [(n, f)] (.rn (jhandN n) n) = [(n, f)] := by
  have hne := nlt_ne (jhandN_lt n)
  simp only [tdone]
  rw [tget_cons, if_neg (by exact hne)]
  rfl
theorem Hanging.fall {d : Dk} {n : Nm} {x : List UInt8} {b : Bool} (h : Hanging d n x b) (keep : List Int) : ∃ y, Fell (dfail d keep) n y ∧ (y = x ∨ y = []) := by
  obtain ⟨f, g, h1, h2, h3, h4, h5, h6, h7⟩ := h.two
  have key : (∃ f', (f' = f ∨ f' = g) ∧ (dpend keep d.pend 0 d.safe = [(n, f')] ∨ ∃ g', dpend keep d.pend 0 d.safe = [(n, f'), (jhandN n, g')])) := by
    rw [h1, h7]
    cases b with
    | false =>
      simp only [Bool.false_eq_true, if_false]
      unfold dpend dpend
      split
      · exact ⟨f, Or.inl rfl, Or.inr ⟨g, tins_hand f g⟩⟩
      · exact ⟨f, Or.inl rfl, Or.inl rfl⟩
    | true =>
      simp only [if_true]
      unfold dpend dpend dpend
      split
      · split
        · refine ⟨g, Or.inr rfl, Or.inl ?_⟩
          show tdone (tins [(n, f)] (jhandN n) g) _ = _
          rw [tins_hand, tdone_laid]
        · refine ⟨f, Or.inl rfl, Or.inl ?_⟩
          rw [tdone_none]
      · split
        · exact ⟨f, Or.inl rfl, Or.inr ⟨g, tins_hand f g⟩⟩
        · exact ⟨f, Or.inl rfl, Or.inl rfl⟩
  obtain ⟨f', hf', hT⟩ := key
  obtain ⟨q, hq⟩ := fell_of h.ok keep hT
  rcases hf' with rfl | rfl
  · rw [h2, dleft_whole (by rfl)] at hq
    exact ⟨_, hq, Or.inl rfl⟩
  · rw [h3, dleft_whole (by rfl)] at hq
    exact ⟨_, hq, Or.inr rfl⟩
theorem Hanging.armed {d : Dk} {n : Nm} {x : List UInt8} {b : Bool} (h : Hanging d n x b) (k : Nat) : Hanging { d with armed := k } n x b := ⟨h.on, h.ok.armed k, h.two⟩
theorem Stand.handed {d : Dk} {n : Nm} {x : List UInt8} (h : Stand d n x) (hn : 1 ≤ n.length ∧ n.length ≤ 199) : ((ddo d (.create (jhandN n))).2 = 20 ∧ ∃ y, Fell (ddo d (.create (jhandN n))).1 n y ∧ (y = x ∨ y = [])) ∨ ((ddo d (.create (jhandN n))).2 = 0 ∧ Hanging (ddo d (.create (jhandN n))).1 n x false ∧ (d.armed = 0 → (ddo d (.create (jhandN n))).1.armed = 0)) := by
  obtain ⟨f, h1, h2, h3, h4, h5, h6⟩ := h.get
  have hne := nlt_ne (jhandN_lt n)
  have hg : tget d.now (jhandN n) = none := by rw [h1, tget_cons, if_neg (by exact hne)]; rfl
  have hr : drefused d (.create (jhandN n)) = 0 := by
    show (if badName (jhandN n) = true then 21 else if (tget d.now (jhandN n)).isSome = true then 13 else 0) = 0
    rw [(name_ok hn).2, hg]
    rfl
  have hH : ∀ (k : Nat) (b : Bool), Hanging (dact { d with armed := k } b (.create (jhandN n))) n x false := fun k b => by
    refine ⟨h.on, (h.ok.armed k).act b _ (by rw [drefused_armed]; exact hr), f, d.files.length, h2, ?_, ?_, by omega, ?_, ?_, ?_⟩
    · show fat (d.files ++ [⟨[], 0⟩]) f = _
      rw [fat_append h6, h4]
    · show fat (d.files ++ [⟨[], 0⟩]) d.files.length = _
      unfold fat
      rw [List.getD_eq_getElem?_getD, List.getElem?_append_right (Nat.le_refl _)]
      simp
    · show d.files.length < (d.files ++ [(⟨[], 0⟩ : Fl)]).length
      simp
    · show tins d.now (jhandN n) d.files.length = _
      rw [h1]
      exact tins_hand f _
    · show d.pend ++ _ = _
      rw [h3]
      rfl
  rcases ddo_any h.on hr with ⟨ha, e⟩ | ⟨ha, e⟩
  · rw [e]
    exact Or.inl ⟨rfl, (hH 0 true).fall _⟩
  · rw [e]
    exact Or.inr ⟨rfl, hH _ false, fun h0 => by show d.armed - 1 = 0; omega⟩
theorem jreset_stand {d : Dk} {n : Nm} {x : List UInt8} (h : Stand d n x) (hn : 1 ≤ n.length ∧ n.length ≤ 199) (k : Nat) :
    ((jreset d n k false).e = 0 ∧ (jreset d n k false).c = false ∧ Stand (jreset d n k false).d n []) ∨ ((jreset d n k false).e = 20 ∧ ∃ y, Fell (jreset d n k false).d n y ∧ (y = x ∨ y = [])) := by
  unfold jreset
  rw [if_neg (by simp)]
  rcases h.handed hn with ⟨e, hy⟩ | ⟨e, hH, -⟩
  · rw [e, if_pos (by simp)]; exact Or.inr ⟨rfl, hy⟩
  · rw [e, if_neg (by simp)]
    generalize (ddo d (.create (jhandN n))).1 = d1 at *
    obtain ⟨f, g, h1, h2, h3, h4, h5, h6, h7⟩ := hH.two
    simp only [Bool.false_eq_true, if_false] at h6 h7
    have hne := nlt_ne (jhandN_lt n)
    have hg : tget d1.now (jhandN n) = some g := by rw [h6, tget_cons, if_neg (by exact hne), tget_cons, if_pos rfl]
    have hr : drefused d1 (.rename (jhandN n) n) = 0 := by
      show (if (tget d1.now (jhandN n)).isSome = false then 18 else if badName n = true then 21 else 0) = 0
      rw [hg, (name_ok hn).1]
      rfl
    have hL : ∀ (k : Nat) (b : Bool), Hanging (dact { d1 with armed := k } b (.rename (jhandN n) n)) n x true := fun k b => by
      refine ⟨hH.on, (hH.ok.armed k).act b _ (by rw [drefused_armed]; exact hr), f, g, h1, h2, h3, h4, h5, ?_, ?_⟩
      · show tdone d1.now (.rn (jhandN n) n) = _
        rw [h6, tdone_laid]
        rfl
      · show d1.pend ++ _ = _
        rw [h7]
        rfl
    rcases ddo_any hH.on hr with ⟨ha, e⟩ | ⟨ha, e⟩
    · rw [e, if_pos (by simp)]; exact Or.inr ⟨rfl, (hL 0 true).fall _⟩
    · rw [e, if_neg (by simp)]
      have hL2 := hL (d1.armed - 1) false
      simp only
      generalize dact { d1 with armed := d1.armed - 1 } false (.rename (jhandN n) n) = d2 at *
      have hok := hL2.ok.do .flush
      rcases ddo_any hL2.on (o := .flush) rfl with ⟨ha, e⟩ | ⟨ha, e⟩
      · rw [e, if_pos (by simp)]; exact Or.inr ⟨rfl, (hL2.armed 0).fall _⟩
      · rw [e] at hok ⊢
        rw [if_neg (by simp)]
        obtain ⟨f, g, h1, h2, h3, h4, h5, h6, h7⟩ := hL2.two
        simp only [if_true] at h6 h7
        exact Or.inl ⟨rfl, rfl, hL2.on, hok, rfl, rfl, g, h6, h3⟩
/-! ### Open -/
theorem Stand.read {d : Dk} {n : Nm} {x : List UInt8} (h : Stand d n x) : dread d n = (x, 0) := by
  obtain ⟨f, h1, h2, h3, h4, h5, h6⟩ := h.get
  unfold dread
  rw [if_neg (by rw [h.on]; simp), h5]
  simp [h4]
theorem Stand.miss {d : Dk} {n : Nm} {x : List UInt8} (h : Stand d n x) : dread d (jhandN n) = ([], 18) := by
  obtain ⟨f, h1, h2, h3, h4, h5, h6⟩ := h.get
  have hne := nlt_ne (jhandN_lt n)
  unfold dread
  rw [if_neg (by rw [h.on]; simp), h1, tget_cons, if_neg (by exact hne)]
  rfl
theorem jrest_stand {d : Dk} {n : Nm} {x : List UInt8} (h : Stand d n x) (l : List (List UInt8)) : ((jrest d n l).e = 0 ∧ (jrest d n l).l = l ∧ Stand (jrest d n l).d n x) ∨ ((jrest d n l).e = 20 ∧ Fell (jrest d n l).d n x ∧ d.armed ≠ 0) := by
  unfold jrest
  rcases h.sync with ⟨e, h1, ha⟩ | ⟨e, h1, ha⟩
  · rw [e, if_pos (by simp)]; exact Or.inr ⟨rfl, h1, by omega⟩
  · rw [e, if_neg (by simp)]
    rcases h1.flush with ⟨e2, h2, hb⟩ | ⟨e2, h2, hb⟩
    · rw [e2]; exact Or.inr ⟨rfl, h2, fun h0 => by have := ha h0; omega⟩
    · rw [e2]; exact Or.inl ⟨rfl, rfl, h2⟩
/-- An opening where all stands. -/
theorem jstart_stand {d : Dk} {n : Nm} {l : List (List UInt8)} (h : Stand d n (jframes l)) (hl : ∀ x ∈ l, x.length ≤ 16777216) :
    ((jstart d n).e = 0 ∧ (jstart d n).l = l ∧ Stand (jstart d n).d n (jframes l)) ∨ ((jstart d n).e = 20 ∧ Fell (jstart d n).d n (jframes l) ∧ d.armed ≠ 0) := by
  unfold jstart
  rw [h.miss, if_neg (by simp)]
  unfold jfill
  rw [h.read, if_neg (by simp), if_pos rfl, jbegin_all hl]
  simp only [Nat.lt_irrefl, if_false]
  exact jrest_stand h l
theorem Stand.cut {d : Dk} {n : Nm} {x s : List UInt8} (h : Stand d n x) (h0 : d.armed = 0) (hn : 1 ≤ n.length ∧ n.length ≤ 199) : (jcut d n s).2 = 19 ∨ ((jcut d n s).2 = 0 ∧ (jcut d n s).1.off = false ∧ (jcut d n s).1.armed = 0 ∧ DkOk (jcut d n s).1 ∧ ∃ g, (jcut d n s).1.now = [(n, g)] ∧ g < (jcut d n s).1.files.length ∧ fat (jcut d n s).1.files g = ⟨s, s.length⟩) := by
  unfold jcut
  obtain ⟨n1, n2⟩ := name_ok hn
  rcases h.handed hn with ⟨e, hy⟩ | ⟨e, hH, ha⟩
  · exfalso
    have hc : Calm d := ⟨h.on, h0⟩
    obtain ⟨f, h1, h2, h3, h4, h5, h6⟩ := h.get
    have hne := nlt_ne (jhandN_lt n)
    have hg : tget d.now (jhandN n) = none := by rw [h1, tget_cons, if_neg (by exact hne)]; rfl
    have hr : drefused d (.create (jhandN n)) = 0 := by
      show (if badName (jhandN n) = true then 21 else if (tget d.now (jhandN n)).isSome = true then 13 else 0) = 0
      rw [n2, hg]
      rfl
    rw [ddo_calm hc hr] at e
    cases e
  · rw [e, if_neg (by simp)]
    replace ha := ha h0
    generalize (ddo d (.create (jhandN n))).1 = d1 at *
    have hc1 : Calm d1 := ⟨hH.on, ha⟩
    obtain ⟨f, g, h1, h2, h3, h4, h5, h6, h7⟩ := hH.two
    simp only [Bool.false_eq_true, if_false] at h6 h7
    have hne := nlt_ne (jhandN_lt n)
    have hg : tget d1.now (jhandN n) = some g := by rw [h6, tget_cons, if_neg (by exact hne), tget_cons, if_pos rfl]
    by_cases hfull : d1.room < dused d1 + s.length
    · have hr : drefused d1 (.write (jhandN n) s) = 19 := by
        show (if (tget d1.now (jhandN n)).isSome = false then 18 else if d1.room < dused d1 + s.length then 19 else 0) = 19
        rw [hg, if_neg (by simp), if_pos hfull]
      rw [ddo_no hH.on (by omega), hr, if_pos (by simp)]
      exact Or.inl rfl
    · have hr : drefused d1 (.write (jhandN n) s) = 0 := by
        show (if (tget d1.now (jhandN n)).isSome = false then 18 else if d1.room < dused d1 + s.length then 19 else 0) = 0
        rw [hg, if_neg (by simp), if_neg hfull]
      have k2 := hH.ok.do (.write (jhandN n) s)
      have c2 := hc1.do (.write (jhandN n) s)
      have f2 : fat (dact d1 false (.write (jhandN n) s)).files g = ⟨s, 0⟩ := by
        show fat (fmod d1.files ((tget d1.now (jhandN n)).getD 0) fun f => ⟨f.data ++ s, f.safe⟩) g = _
        rw [hg]
        show fat (fmod d1.files g _) g = _
        rw [fat_fmod _ _ _ _ h5, if_pos rfl, h3]
        rfl
      have n2' : (dact d1 false (.write (jhandN n) s)).now = d1.now := rfl
      rw [ddo_calm hc1 hr] at k2 c2 ⊢
      rw [if_neg (by simp)]
      simp only at k2 c2 ⊢
      generalize dact d1 false (.write (jhandN n) s) = d2 at *
      have hg2 : tget d2.now (jhandN n) = some g := by rw [n2', hg]
      have hl2 : g < d2.files.length := k2.nowIn _ (tget_mem hg2)
      have hr2 : drefused d2 (.sync (jhandN n)) = 0 := by simp [drefused, hg2]
      have k3 := k2.do (.sync (jhandN n))
      have c3 := c2.do (.sync (jhandN n))
      have f3 : fat (dact d2 false (.sync (jhandN n))).files g = ⟨s, s.length⟩ := by
        show fat (fmod d2.files ((tget d2.now (jhandN n)).getD 0) fun f => ⟨f.data, f.data.length⟩) g = _
        rw [hg2]
        show fat (fmod d2.files g _) g = _
        rw [fat_fmod _ _ _ _ hl2, if_pos rfl, f2]
      have n3 : (dact d2 false (.sync (jhandN n))).now = d2.now := rfl
      rw [ddo_calm c2 hr2] at k3 c3 ⊢
      rw [if_neg (by simp)]
      simp only at k3 c3 ⊢
      generalize dact d2 false (.sync (jhandN n)) = d3 at *
      have hg3 : tget d3.now (jhandN n) = some g := by rw [n3, hg2]
      have hr3 : drefused d3 (.rename (jhandN n) n) = 0 := by
        show (if (tget d3.now (jhandN n)).isSome = false then 18 else if badName n = true then 21 else 0) = 0
        rw [hg3, n1]
        rfl
      have k4 := k3.do (.rename (jhandN n) n)
      have c4 := c3.do (.rename (jhandN n) n)
      have n4 : (dact d3 false (.rename (jhandN n) n)).now = [(n, g)] := by
        show tdone d3.now (.rn (jhandN n) n) = _
        rw [n3, n2', h6, tdone_laid]
      have f4 : fat (dact d3 false (.rename (jhandN n) n)).files g = ⟨s, s.length⟩ := f3
      rw [ddo_calm c3 hr3] at k4 c4 ⊢
      unfold jclean
      rw [if_neg (by simp)]
      exact Or.inr ⟨rfl, c4.1, c4.2, k4, g, n4, k4.nowIn (n, g) (by rw [n4]; simp), f4⟩
/-- An opening behind a failure. -/
theorem jstart_fell {d : Dk} {n : Nm} {x : List UInt8} (h : Fell d n x) (hn : 1 ≤ n.length ∧ n.length ≤ 199) :
    ((jstart (drevive d) n).e = 0 ∧ (jstart (drevive d) n).l = (jbegin x).1 ∧ Stand (jstart (drevive d) n).d n (jframes (jbegin x).1)) ∨ (jstart (drevive d) n).e = 19 := by
  obtain ⟨f, h1, h2⟩ := h.one
  have hne := nlt_ne (jhandN_lt n)
  have key : ∀ d1 : Dk, Stand d1 n x → d1.armed = 0 → ((jfill d1 n).e = 0 ∧ (jfill d1 n).l = (jbegin x).1 ∧ Stand (jfill d1 n).d n (jframes (jbegin x).1)) ∨ (jfill d1 n).e = 19 := by
    intro d1 hs ha
    unfold jfill
    rw [hs.read, if_neg (by simp), if_pos rfl]
    obtain ⟨t1, t2⟩ := jbegin_take x.length x (Nat.le_refl _)
    by_cases hlt : (jbegin x).2 < x.length
    · simp only
      rw [if_pos hlt, t1]
      rcases hs.cut (s := jframes (jbegin x).1) ha hn with e | ⟨e, w1, w2, w3, g, w4, w5, w6⟩
      · rw [e, if_pos (by simp)]; exact Or.inr rfl
      · rw [e, if_neg (by simp)]
        generalize (jcut d1 n (jframes (jbegin x).1)).1 = d2 at *
        unfold jrest
        have hg : tget d2.now n = some g := by rw [w4, tget_cons, if_pos rfl]
        have hr : drefused d2 (.sync n) = 0 := by simp [drefused, hg]
        have hc : Calm d2 := ⟨w1, w2⟩
        have k2 := w3.do (.sync n)
        have c2 := hc.do (.sync n)
        have f2 : fat (dact d2 false (.sync n)).files g = ⟨jframes (jbegin x).1, (jframes (jbegin x).1).length⟩ := by
          show fat (fmod d2.files ((tget d2.now n).getD 0) fun f => ⟨f.data, f.data.length⟩) g = _
          rw [hg]
          show fat (fmod d2.files g _) g = _
          rw [fat_fmod _ _ _ _ w5, if_pos rfl, w6]
        have n2 : (dact d2 false (.sync n)).now = [(n, g)] := w4
        rw [ddo_calm hc hr] at k2 c2 ⊢
        rw [if_neg (by simp)]
        simp only at k2 c2 ⊢
        generalize dact d2 false (.sync n) = d3 at *
        have k3 := k2.do .flush
        rw [ddo_calm c2 rfl] at k3 ⊢
        exact Or.inl ⟨by first | rfl | trivial, by first | rfl | trivial, c2.1, k3, rfl, rfl, g, n2, f2⟩
    · have hle := (jbegin_le x.length x (Nat.le_refl _)).1
      have hx : x = jframes (jbegin x).1 := by rw [← t1, List.take_of_length_le (by omega)]
      simp only
      rw [if_neg hlt]
      rcases jrest_stand hs (jbegin x).1 with ⟨e, e2, hs2⟩ | ⟨e, _, hb⟩
      · exact Or.inl ⟨e, e2, by rw [← hx]; exact hs2⟩
      · exact absurd ha hb
  have hrok : DkOk (drevive d) := ⟨h.ok.now, h.ok.safe, h.ok.nowIn, h.ok.safeIn, h.ok.pendIn, h.ok.safeLe⟩
  unfold jstart
  rcases h2 with h2 | ⟨g, h2⟩
  · have hs : Stand (drevive d) n x := ⟨rfl, hrok, h.pend, h.same, f, h2, h1⟩
    rw [hs.miss, if_neg (by simp)]
    exact key _ hs h.armed
  · have hc : Calm (drevive d) := ⟨rfl, h.armed⟩
    have hg : tget (drevive d).now (jhandN n) = some g := by
      show tget d.now (jhandN n) = some g
      rw [h2, tget_cons, if_neg (by exact hne), tget_cons, if_pos rfl]
    have hread : (dread (drevive d) (jhandN n)).2 = 0 := by
      unfold dread
      rw [if_neg (by simp [drevive]), hg]
    have hr : drefused (drevive d) (.remove (jhandN n)) = 0 := by simp [drefused, hg]
    rw [if_pos hread]
    have k2 := hrok.do (.remove (jhandN n))
    have c2 := hc.do (.remove (jhandN n))
    have n2 : (dact (drevive d) false (.remove (jhandN n))).now = [(n, f)] := by
      show tout d.now (jhandN n) = _
      rw [h2]
      simp [tout, hne]
    have f2 : fat (dact (drevive d) false (.remove (jhandN n))).files f = ⟨x, x.length⟩ := h1
    rw [ddo_calm hc hr] at k2 c2 ⊢
    rw [if_neg (by simp)]
    simp only at k2 c2 ⊢
    generalize dact (drevive d) false (.remove (jhandN n)) = d2 at *
    have k3 := k2.do .flush
    rw [ddo_calm c2 rfl] at k3 ⊢
    rw [if_neg (by simp)]
    exact key _ ⟨c2.1, k3, rfl, rfl, f, n2, f2⟩ c2.2
theorem jstart_first (R : Int) {n : Nm} (hn : 1 ≤ n.length ∧ n.length ≤ 199) : (jstart (dnew R) n).e = 0 ∧ (jstart (dnew R) n).l = [] ∧ Stand (jstart (dnew R) n).d n [] := by
  have hr : drefused (dnew R) (.create n) = 0 := by
    show (if badName n = true then 21 else if (tget [] n).isSome = true then 13 else 0) = 0
    rw [(name_ok hn).1]
    rfl
  have hc : Calm (dnew R) := ⟨rfl, rfl⟩
  have e : ∀ m, dread (dnew R) m = ([], 18) := fun m => rfl
  unfold jstart
  rw [e, if_neg (by simp)]
  unfold jfill
  rw [e, if_pos rfl]
  have k1 := (DkOk.new R).do (.create n)
  have c1 := hc.do (.create n)
  have n1 : (dact (dnew R) false (.create n)).now = [(n, 0)] := rfl
  have f1 : fat (dact (dnew R) false (.create n)).files 0 = ⟨[], 0⟩ := rfl
  rw [ddo_calm hc hr] at k1 c1 ⊢
  rw [if_neg (by simp)]
  simp only at k1 c1 ⊢
  generalize dact (dnew R) false (.create n) = d1 at *
  unfold jrest
  have hg : tget d1.now n = some 0 := by rw [n1, tget_cons, if_pos rfl]
  have hl : 0 < d1.files.length := k1.nowIn (n, 0) (by rw [n1]; simp)
  have hr2 : drefused d1 (.sync n) = 0 := by simp [drefused, hg]
  have k2 := k1.do (.sync n)
  have c2 := c1.do (.sync n)
  have f2 : fat (dact d1 false (.sync n)).files 0 = ⟨[], 0⟩ := by
    show fat (fmod d1.files ((tget d1.now n).getD 0) fun f => ⟨f.data, f.data.length⟩) 0 = _
    rw [hg]
    show fat (fmod d1.files 0 _) 0 = _
    rw [fat_fmod _ _ _ _ hl, if_pos rfl, f1]
    rfl
  have n2 : (dact d1 false (.sync n)).now = [(n, 0)] := n1
  rw [ddo_calm c1 hr2] at k2 c2 ⊢
  rw [if_neg (by simp)]
  simp only at k2 c2 ⊢
  generalize dact d1 false (.sync n) = d2 at *
  have k3 := k2.do .flush
  rw [ddo_calm c2 rfl] at k3 ⊢
  exact ⟨by first | rfl | trivial, by first | rfl | trivial, c2.1, k3, rfl, rfl, 0, n2, f2⟩
end Go.Proofs.YtfgpigblnkanpaaGreatDoor

namespace Go.Proofs.YtfgpigblnkanpaaGreatDoor
open Go.RowKit Go.Maps Go.Shelf
set_option linter.unusedVariables false
set_option linter.unusedSimpArgs false

set_option maxHeartbeats 4000000 in
set_option maxRecDepth 100000 in
theorem jReset_any {w0 w : World} {K A : List Nat} {jb g : Nat} {d : Dk} {N : Nat} {nm : Nm} {n : Nat} {c : Bool} (h : Jl w0 w K A jb g d N nm n c) (hN : N + 3 < 4294967296) : Calls Tryz.prog 47 #[.pointer (some ⟨jb, 0, none⟩)] w fun e w' => e = .returned (errV (jreset d nm n c).e) ∧ JlTo w0 K w jb g (jreset d nm n c).d (N + 3) nm (jreset d nm n c).n (jreset d nm n c).c w' := by
  obtain ⟨c0, c1, c2, c3⟩ := h.cells
  have hlen := h.len
  have hhl := jhandN_len hlen
  cases c with
  | true =>
    have hh : JlTo w0 K w jb g d (N + 3) nm n true w := ⟨⟨A, h.mono (by omega)⟩, fun _ _ => rfl⟩
    have HH := Lib.hid hh
    clear h hh
    go_enter Tryz.func47, Tryz.ntmps47
    go_wp2_with (fail)
    go_ret
    exact ⟨rfl, HH.out⟩
  | false =>
    obtain ⟨J, hJ⟩ : ∃ J, jreset d nm n false = J := ⟨_, rfl⟩
    have hj := hJ
    unfold jreset at hj
    rw [if_neg (by simp)] at hj
    have HJ := Lib.hid hJ
    rw [hJ]
    clear hJ
    have HH := h.hand
    have HO := Lib.hid (jl_create h (Below.refl _ _).drew (by omega) (jhandN nm) (by omega))
    clear h
    go_enter Tryz.func47, Tryz.ntmps47
    go_upto_region 3 with (fail)
    refine wp_region_still_tail 6 (by kernel_rfl) (by kernel_rfl) ?_
    simp only [List.take_succ_cons, List.take_zero, List.drop_succ_cons, List.drop_zero]
    repeat still_step
    still_call HH
    refine wpStill_nil ?_
    go_wp2_with (fail)
    refine HO.out.mono ?_
    rintro e w1 ⟨rfl, ⟨A1, h1⟩, hk1⟩
    clear HO HH c0 c1 c2 c3
    generalize (ddo d (.create (jhandN nm))).2 = e1 at *
    generalize (ddo d (.create (jhandN nm))).1 = d1 at *
    obtain ⟨c0, c1, c2, c3⟩ := h1.cells
    by_cases z1 : e1 = 0
    · subst z1
      rw [if_neg (by simp)] at hj
      rw [errV_none]
      have HH := h1.hand
      have HO := Lib.hid (jl_rename h1 (Below.refl _ _).drew (by omega) (jhandN nm) nm (by omega) (by omega))
      have HK1 := Lib.hid hk1
      clear h1 hk1
      go_upto_region 5 with (fail)
      refine wp_region_still_tail 10 (by kernel_rfl) (by kernel_rfl) ?_
      simp only [List.take_succ_cons, List.take_zero, List.drop_succ_cons, List.drop_zero]
      repeat still_step
      still_call HH
      repeat still_step
      refine wpStill_nil ?_
      go_wp2_with (fail)
      refine HO.out.mono ?_
      rintro e w2 ⟨rfl, ⟨A2, h2⟩, hk2⟩
      clear HO HH c0 c1 c2 c3
      generalize (ddo d1 (.rename (jhandN nm) nm)).2 = e2 at *
      generalize (ddo d1 (.rename (jhandN nm) nm)).1 = d2 at *
      obtain ⟨c0, c1, c2, c3⟩ := h2.cells
      by_cases z2 : e2 = 0
      · subst z2
        rw [if_neg (by simp)] at hj
        rw [errV_none]
        have HO := Lib.hid (jl_flush h2 (Below.refl _ _) (by omega))
        have HK2 := Lib.hid fun k hk => (hk2 k hk).trans (HK1.out k hk)
        clear h2 hk2 HK1
        go_wp2_with (fail)
        refine HO.out.mono ?_
        rintro e w3 ⟨rfl, ⟨A3, h3⟩, hk3⟩
        clear HO c0 c1 c2 c3
        generalize (ddo d2 .flush).2 = e3 at *
        generalize (ddo d2 .flush).1 = d3 at *
        have hk4 : ∀ k ∈ K, w3.heap[k]? = w.heap[k]? := fun k hk => (hk3 k hk).trans (HK2.out k hk)
        by_cases z3 : e3 = 0
        · subst z3
          rw [if_neg (by simp)] at hj
          rw [errV_none]
          obtain ⟨c0, c1, c2, c3⟩ := h3.cells
          have hf2 := h3.j.free 2
          have hcn := h3.count 0
          have hsh := jshut_any hcn.1 0
          rw [errV_none] at hsh
          have HS := Lib.hid hsh
          have HK4 := Lib.hid fun k hk => (hcn.2 k hk).trans (hk4 k hk)
          clear h3 hk3 hk4 hcn hsh HK2
          go_wp2_with (fail)
          refine HS.out.mono ?_
          rintro e w4 ⟨rfl, ⟨A4, h4⟩, hk4⟩
          have hres : JlTo w0 K w jb g J.d (N + 3) nm J.n J.c w4 := by
            rw [← hj]
            exact ⟨⟨A4, by have h5 := h4.mono (show _ ≤ N + 3 by omega); simpa using h5⟩, fun k hk => (hk4 k hk).trans (HK4.out k hk)⟩
          have HRES := Lib.hid hres
          have he : J.e = 0 := by rw [← hj]
          clear h4 hk4 hres HS HK4 hj
          go_wp2
          go_ret
          exact ⟨by (rw [he, errV_none]; first | done | rfl), HRES.out⟩
        · rw [if_pos z3] at hj
          have hsh := jshut_any h3 e3
          rw [errV_some z3] at hsh ⊢
          have HS := Lib.hid hsh
          have HK4 := Lib.hid hk4
          have HZ := Lib.hid z3
          clear h3 hk3 hk4 hsh HK2 z3
          go_wp2_with (fail)
          refine HS.out.mono ?_
          rintro e w4 ⟨rfl, ⟨A4, h4⟩, hk4⟩
          have hres : JlTo w0 K w jb g J.d (N + 3) nm J.n J.c w4 := by
            rw [← hj]
            have hz := HZ.out
            exact ⟨⟨A4, by have h5 := h4.mono (show _ ≤ N + 3 by omega); rw [Bool.false_or, show (_ != 0) = true from bne_iff_ne.2 hz] at h5; exact h5⟩, fun k hk => (hk4 k hk).trans (HK4.out k hk)⟩
          have HRES := Lib.hid hres
          have he : J.e = e3 := by rw [← hj]
          clear h4 hk4 hres HS HK4 hj
          go_wp2
          go_ret
          exact ⟨by (rw [he, errV_some HZ.out]; first | done | rfl), HRES.out⟩
      · rw [if_pos z2] at hj
        have hsh := jshut_any h2 e2
        rw [errV_some z2] at hsh ⊢
        have HS := Lib.hid hsh
        have HK4 := Lib.hid fun k hk => (hk2 k hk).trans (HK1.out k hk)
        have HZ := Lib.hid z2
        clear h2 hk2 hsh HK1 z2
        go_wp2_with (fail)
        refine HS.out.mono ?_
        rintro e w4 ⟨rfl, ⟨A4, h4⟩, hk4⟩
        have hres : JlTo w0 K w jb g J.d (N + 3) nm J.n J.c w4 := by
          rw [← hj]
          have hz := HZ.out
          exact ⟨⟨A4, by have h5 := h4.mono (show _ ≤ N + 3 by omega); rw [Bool.false_or, show (_ != 0) = true from bne_iff_ne.2 hz] at h5; exact h5⟩, fun k hk => (hk4 k hk).trans (HK4.out k hk)⟩
        have HRES := Lib.hid hres
        have he : J.e = e2 := by rw [← hj]
        clear h4 hk4 hres HS HK4 hj
        go_wp2
        go_ret
        exact ⟨by (rw [he, errV_some HZ.out]; first | done | rfl), HRES.out⟩
    · rw [if_pos z1] at hj
      have hsh := jshut_any h1 e1
      rw [errV_some z1] at hsh ⊢
      have HS := Lib.hid hsh
      have HK4 := Lib.hid hk1
      have HZ := Lib.hid z1
      clear h1 hk1 hsh z1
      go_wp2_with (fail)
      refine HS.out.mono ?_
      rintro e w4 ⟨rfl, ⟨A4, h4⟩, hk4⟩
      have hres : JlTo w0 K w jb g J.d (N + 3) nm J.n J.c w4 := by
        rw [← hj]
        have hz := HZ.out
        exact ⟨⟨A4, by have h5 := h4.mono (show _ ≤ N + 3 by omega); rw [Bool.false_or, show (_ != 0) = true from bne_iff_ne.2 hz] at h5; exact h5⟩, fun k hk => (hk4 k hk).trans (HK4.out k hk)⟩
      have HRES := Lib.hid hres
      have he : J.e = e1 := by rw [← hj]
      clear h4 hk4 hres HS HK4 hj
      go_wp2
      go_ret
      exact ⟨by (rw [he, errV_some HZ.out]; first | done | rfl), HRES.out⟩
end Go.Proofs.YtfgpigblnkanpaaGreatDoor
