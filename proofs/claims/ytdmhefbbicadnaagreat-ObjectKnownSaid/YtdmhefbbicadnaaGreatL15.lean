import Derived.Test.YtdmhefbbicadnaaGreatL14
/-! The lifted logic, part 15: drawn regions that make new blocks, each under a number kept for it. -/
namespace Go.Lift

def dropL : List Nat → Heap → Heap
  | [], H => H
  | b :: F, H => dropL F (H.drop b)

def backL : List Nat → Heap → Heap → Heap
  | [], _, H' => H'
  | b :: F, H, H' => match H.get b with
    | some k => (backL F (H.drop b) H').set b k
    | none => backL F (H.drop b) H'

def okL : List Nat → Heap → Prop
  | [], _ => True
  | b :: F, H => (∃ k, H.get b = some k ∧ k.rw = true) ∧ okL F (H.drop b)

theorem HR.dropL {φ : Phi} {w : World} : ∀ (F : List Nat) {H : Heap}, HR φ H w → HR φ (dropL F H) w
  | [], _, h => h
  | b :: F, _, h => HR.dropL F (h.aside b)

theorem HR.backL {φ φ' : Phi} {w w' : World} : ∀ (F : List Nat) {H H' : Heap}, HR φ H w → okL F H → HR φ' H' w' → Ext φ (Go.Lift.dropL F H) w φ' H' w' →
    HR φ' (Go.Lift.backL F H H') w' ∧ Ext φ H w φ' (Go.Lift.backL F H H') w'
  | [], _, _, _, _, h', hx => ⟨h', hx⟩
  | b :: F, H, H', h, hok, h', hx => by
    obtain ⟨⟨k, hk, hrw⟩, hok⟩ := hok
    obtain ⟨r1, r2⟩ := HR.backL F (h.aside b) hok h' hx
    simp only [Go.Lift.backL, hk]
    exact h.again hk hrw r1 r2

/-- What is set aside may be left so. -/
theorem Ext.drop1 {φ : Phi} {H : Heap} {w : World} {b : Nat} {k : Blk} (hk : H.get b = some k) (hrw : k.rw = true) : Ext φ H w φ (H.drop b) w := by
  refine ⟨Phi.le_refl _, Nat.le_refl _, fun _ _ _ => rfl, fun _ _ => rfl, fun x kx j ex hj => ?_, fun x e1 c1 ex => ?_, Nat.le_refl _, rfl, rfl⟩
  · rw [drop_get] at ex
    split at ex
    · cases ex
    · exact .inr ⟨x, kx, j, ex, id, hj, rfl⟩
  · have hne : x ≠ b := by
      rintro rfl
      rw [hk] at ex
      obtain rfl := Option.some.inj ex
      cases hrw
    rw [drop_get, if_neg hne]
    exact ex

theorem Ext.dropL {φ : Phi} {w : World} : ∀ (F : List Nat) {H : Heap}, okL F H → Ext φ H w φ (Go.Lift.dropL F H) w
  | [], _, _ => Ext.refl _ _ _
  | _ :: F, _, hok => (Ext.drop1 hok.1.choose_spec.1 hok.1.choose_spec.2).trans (Ext.dropL F hok.2)

def scal : Value → Bool
  | .bool _ | .int _ _ | .string _ | .pointer none | .map none | .nilFunc | .nilIface => true
  | .slice none 0 0 => true
  | _ => false

theorem VR.scal {φ φ' : Phi} {v v' : Value} (h : Go.Lift.scal v = true) (r : VR φ v v') : VR φ' v v' := by
  unfold Go.Lift.scal at h
  split at h <;> first | (cases h; done) | (cases r; constructor)

/-- Operation i makes block k, and yields v, under number s. -/
def Al (P : Program) (ops : Array Oper) (i s : Nat) (e : Env) (v : Value) (k : Blk) : Prop :=
  ∃ o e0, ops[i]? = some o ∧ o.guard = none ∧ k.rw = true ∧ lopW P e0 o (Heap.void s) (fun u H' => u = v ∧ H' = (Heap.void s).alloc k) ∧ e0.n = e.n ∧
    ∀ t x, eget e0 t = some x → eget e t = some x ∧ scal x = true ∧ t ∈ o.looksAt ops

theorem Al.put {P : Program} {ops : Array Oper} {i s : Nat} {e : Env} {v : Value} {k : Blk} {d : Option Nat} {u : Value} (hl : looksNot ops i d) (h : Al P ops i s (e.put d u) v k) : Al P ops i s e v k := by
  obtain ⟨o, e0, h1, h2, h3, h4, h5, h6⟩ := h
  refine ⟨o, e0, h1, h2, h3, h4, by rw [h5, Env.put_n], fun t x ht => ?_⟩
  obtain ⟨g1, g2, g3⟩ := h6 t x ht
  refine ⟨?_, g2, g3⟩
  cases d with
  | none => exact g1
  | some d =>
    have : t ≠ d := fun q => hl o d h1 rfl (q ▸ g3)
    simpa [eget, Env.put, this] using g1

theorem Al.put' {P : Program} {ops : Array Oper} {i s : Nat} {e : Env} {v : Value} {k : Blk} {d : Option Nat} {u : Value} (hl : looksNot ops i d) (h : Al P ops i s e v k) : Al P ops i s (e.put d u) v k := by
  obtain ⟨o, e0, h1, h2, h3, h4, h5, h6⟩ := h
  refine ⟨o, e0, h1, h2, h3, h4, by rw [h5, Env.put_n], fun t x ht => ?_⟩
  obtain ⟨g1, g2, g3⟩ := h6 t x ht
  refine ⟨?_, g2, g3⟩
  cases d with
  | none => exact g1
  | some d =>
    have : t ≠ d := fun q => hl o d h1 rfl (q ▸ g3)
    simpa [eget, Env.put, this] using g1

def MvZ (P : Program) (ops : Array Oper) (A : Nat → Bool) (σ : Nat → Nat) : Move := fun j e H K Kp =>
  (A j = true ∧ ∃ v k, Al P ops j (σ j) e v k ∧ H.get (σ j) = none ∧ K v (H.set (σ j) k)) ∨
  (A j = false ∧ ∃ F K0 Kp0, okL F H ∧ gop P ops j e (dropL F H) K0 Kp0 ∧ (∀ v H', K0 v H' → K v (backL F H H')) ∧ ∀ c H', Kp0 c H' → Kp c H')

section
variable {P : Program} {ops : Array Oper} {A : Nat → Bool} {σ : Nat → Nat}

theorem MvZ.putOK : PutOK (MvZ P ops A σ) ops := by
  intro j d e v H K Kp hl h
  rcases h with ⟨hA, u, k, h1, h2, h3⟩ | ⟨hA, F, K0, Kp0, h1, h2, h3, h4⟩
  · exact .inl ⟨hA, u, k, h1.put hl, h2, h3⟩
  · exact .inr ⟨hA, F, K0, Kp0, h1, by rw [gop_put hl] at h2; exact h2, h3, h4⟩

theorem MvZ.monoOK : MonoOK (MvZ P ops A σ) := by
  intro j e H K K' Kp Kp' h hk hkp
  rcases h with ⟨hA, u, k, h1, h2, h3⟩ | ⟨hA, F, K0, Kp0, h1, h2, h3, h4⟩
  · exact .inl ⟨hA, u, k, h1, h2, hk _ _ h3⟩
  · exact .inr ⟨hA, F, K0, Kp0, h1, h2, fun v H' h => hk _ _ (h3 v H' h), fun c H' h => hkp _ _ (h4 c H' h)⟩

theorem MvZ.yld {E : Nat → Bool} (hE : ∀ i, A i = true → E i = true) : ∀ i e H v, Yld P ops i e H v → E i = false → ∀ K Kp, K v H → MvZ P ops A σ i e H K Kp := by
  intro i e H v hy hEi K Kp hk
  refine .inr ⟨?_, [], K, Kp, trivial, hy K Kp hk, fun _ _ h => h, fun _ _ h => h⟩
  cases hA : A i with
  | false => rfl
  | true => rw [hE i hA] at hEi; cases hEi

theorem aAnyZ_sound {rf : Bool} {F : Fence} (hF : WF F) {E : Nat → Bool} {K : AExit → Env → Heap → Prop} {φ0 : Phi} {H0 : Heap} {w0 : World} {a0 : Act} (hinj : ∀ i j, A i = true → A j = true → σ i = σ j → i = j) (h0 : 0 < H0.next) :
    ∀ (fuel : Nat) (L : Obl) (listed : Array Bool) (e : Env) (H : Heap) (φ : Phi) (a : Act) (w : World), dstsOK ops e.n = true →
    aAnyM E (MvZ P ops A σ) ops K fuel L listed e H → ARel φ e a → HR φ H w → Ext φ0 H0 w0 φ H w → (∀ j, A j = true → H0.next ≤ σ j ∧ σ j < H.next) → (∀ j, A j = true → listed.getD j true = false → φ (σ j) = none) →
    a.defers = a0.defers → a.tmps.size = a0.tmps.size → wpAnyIn F 0 P .any ops (APost rf φ0 H0 w0 a0 K) fuel listed a w
  | 0, L, listed, e, H, φ, a, w, _, h, ha, hw, hx, _, _, hd, hs => ⟨h.1, .normal, e, H, φ, h.2, trivial, ha, hw, hx, .of_eq hd, hs⟩
  | fuel + 1, L, listed, e, H, φ, a, w, hok, h, ha, hw, hx, hσ, hun, hd, hs => by
    refine ⟨fun hr => ⟨.normal, e, H, φ, h.1 hr, trivial, ha, hw, hx, .of_eq hd, hs⟩, fun i hi => ?_⟩
    have hiun : listed.getD i true = false := (mem_ready.1 hi).1
    have hset : ∀ j, (listed.setIfInBounds i true).getD j true = false → j ≠ i ∧ listed.getD j true = false := by
      intro j hj
      by_cases hij : i = j
      · subst hij
        have hlt : i < listed.size := by
          rcases Nat.lt_or_ge i listed.size with h' | h'
          · exact h'
          · simp [h'] at hiun
        simp [hlt] at hj
      · exact ⟨fun q => hij q.symm, by rw [getD_set_ne true hij] at hj; exact hj⟩
    rcases h.2 i hi with ⟨hA, v, k, ⟨o, e0, ho, hg, hrw, hop, hn, hsub⟩, hget, hK⟩ | ⟨hA, Fl, K0, Kp0, hFl, hgop, hk0, hkp0⟩
    · have ha0 : ARel (fun _ => none) e0 a := ⟨by rw [hn]; exact ha.1, fun t x ht => by
        obtain ⟨g1, g2, _⟩ := hsub t x ht
        rw [hn]
        exact ⟨(ha.2 t x g1).1, (ha.2 t x g1).2.scal g2⟩⟩
      obtain ⟨v', w', bi, hrun, r1, r2, r3⟩ := alloc_at hop ha0 hw (by have := (hσ i hA).1; omega) (hσ i hA).2 (hun i hA hiun) hget
      have hnext : wpAnyIn F 0 P .any ops (APost rf φ0 H0 w0 a0 K) fuel (listed.setIfInBounds i true) (a.put o.dst v') w' := by
        have hd0 : dstOf ops i = o.dst := dstOf_eq ho
        have hle : φ.le (φ.add (σ i) bi) := by
          intro b j hb
          have hne : b ≠ σ i := by rintro rfl; rw [hun i hA hiun] at hb; cases hb
          show (if b = σ i then some bi else φ b) = some j
          rw [if_neg hne]; exact hb
        rw [← hd0]
        refine aAnyZ_sound hF hinj h0 fuel L _ _ _ _ _ w' (by rw [Env.put_n]; exact hok) hK.2 ((ha.mono hle).put (fun t ht => dstsOK_spec hok i t ht) r1) r2 (r3 φ0 H0 w0 hx (hσ i hA).1) hσ (fun j hj hlj => ?_) ?_ ?_
        · obtain ⟨hne, hlj⟩ := hset j hlj
          show (if σ j = σ i then some bi else φ (σ j)) = none
          rw [if_neg fun q => hne (hinj j i hj hA q)]
          exact hun j hj hlj
        · rw [Act.put_defers']; exact hd
        · rw [Act.put_size]; exact hs
      unfold wpOpIn
      have hwant : Region.wanted o (yielded ops a.tmps) = true := by simp [Region.wanted, hg]
      simp only [ho, hwant, if_true]
      refine ⟨fun f _ => hF.fn f, ?_⟩
      rw [Oper.semAt_eq _ _ _ fun c hc => by unfold lopW at hop; rw [hc] at hop; exact hop]
      rcases hrun with hrun | ⟨hrun, rfl⟩
      · rw [hrun]; exact hnext
      · rw [hrun]; exact hnext
    · refine gop_sound (hF := hF) hgop ha (HR.dropL Fl hw) (fun v v' H' φ' w' k r hw' hx' => ?_) fun ch ch' H' φ' w' k r hw' hx' => ?_
      · obtain ⟨q1, q2⟩ := HR.backL Fl hw hFl hw' hx'
        refine aAnyZ_sound hF hinj h0 fuel L _ _ _ φ' _ w' (by rw [Env.put_n]; exact hok) (hk0 _ _ k).2 ((ha.mono hx'.phi).put (fun t ht => dstsOK_spec hok i t ht) r) q1 (hx.trans q2)
          (fun j hj => ⟨(hσ j hj).1, Nat.lt_of_lt_of_le (hσ j hj).2 q2.next⟩) (fun j hj hlj => ?_) ?_ ?_
        · rw [q2.back _ (hσ j hj).2]
          exact hun j hj (hset j hlj).2
        · rw [Act.put_defers']; exact hd
        · rw [Act.put_size]; exact hs
      · exact ⟨.panic ch, e.bare, _, φ', hkp0 _ _ k, r, .bare ha.1, hw', hx.trans ((Ext.dropL Fl hFl).trans hx'), .of_eq hd, hs⟩

def Heap.bump (H : Heap) (m : Nat) : Heap := { H with next := H.next + m }

theorem HR.bump {φ : Phi} {H : Heap} {w : World} (h : HR φ H w) (m : Nat) : HR φ (H.bump m) w ∧ Ext φ H w φ (H.bump m) w :=
  ⟨⟨h.zero, Nat.lt_of_lt_of_le h.pos (Nat.le_add_right _ _), fun b i hb => Nat.lt_of_lt_of_le (h.fresh b i hb) (Nat.le_add_right _ _), h.dom, h.sep⟩,
    ⟨Phi.le_refl _, Nat.le_refl _, fun _ _ _ => rfl, fun _ _ => rfl, fun b k i h1 h3 => .inr ⟨b, k, i, h1, id, h3, rfl⟩, fun _ _ _ h => h, Nat.le_add_right _ _, rfl, rfl⟩⟩

theorem acode_region_anyZ {rf : Bool} {E : Nat → Bool} {K : AExit → Env → Heap → Prop} {id m : Nat} {e : Env} {H : Heap} (hm : P.follows .mixedOrders = true) (hok : dstsOK ops e.n = true)
    (hinj : ∀ i j, A i = true → A j = true → σ i = σ j → i = j) (hσ : ∀ j, A j = true → H.next ≤ σ j ∧ σ j < H.next + m)
    (h : aAnyM E (MvZ P ops A σ) ops K ops.size [] (Array.replicate ops.size false) e (H.bump m)) : acode rf P (.region id ops true) K e H :=
  fun F hF _ φ a w ha hw => wpIn_region_any hm (by
    have hw1 : HR φ H { w with drawn := w.drawn + 1 } := hw.drawn rfl
    obtain ⟨b1, b2⟩ := hw1.bump m
    refine aAnyZ_sound hF hinj hw.pos _ _ _ e (H.bump m) φ a _ hok h ha b1 ((Ext.drawn (φ := φ) (H := H) (w := w) (w' := { w with drawn := w.drawn + 1 }) rfl rfl rfl).trans b2) hσ (fun j hj _ => ?_) rfl rfl
    cases hφ : φ (σ j) with
    | none => rfl
    | some i => have := hw.fresh _ _ hφ; have := (hσ j hj).1; omega)
end

end Go.Lift
