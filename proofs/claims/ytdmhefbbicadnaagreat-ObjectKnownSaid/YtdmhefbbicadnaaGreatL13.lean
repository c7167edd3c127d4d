import Derived.Test.YtdmhefbbicadnaaGreatL12
/-! The lifted logic, part 13: a block set aside. -/
namespace Go.Lift

/-- **What was set aside is there again**: a run that knew nothing of a block of one's own has left it. -/
theorem HR.again {φ φ' : Phi} {H H' : Heap} {w w' : World} {b : Nat} {k : Blk} (h : HR φ H w) (e : H.get b = some k) (hk : k.rw = true) (h' : HR φ' H' w') (hx : Ext φ (H.drop b) w φ' H' w') :
    HR φ' (H'.set b k) w' ∧ Ext φ H w φ' (H'.set b k) w' := by
  obtain ⟨i, hi, hblk⟩ := h.dom b k e
  have hlt : i.rb < w.heap.size := h.lt e hi
  have hin : ∀ x kx, (H.drop b).get x = some kx → x ≠ b ∧ H.get x = some kx := by
    intro x kx ex
    rw [drop_get] at ex
    split at ex
    · cases ex
    · rename_i hne; exact ⟨hne, ex⟩
  have hsame : w'.heap[i.rb]? = w.heap[i.rb]? := by
    refine hx.kept i.rb hlt fun x kx ix ex _ px heq => ?_
    obtain ⟨hne, ex⟩ := hin x kx ex
    exact h.sep b x k kx i ix e ex hi px (fun q => hne q.symm) hk heq.symm
  have hi' : φ' b = some i := hx.phi _ _ hi
  have hblk' : BlkR φ' w' i k := hblk.mono hx.phi hsame
  have apart : ∀ x kx ix, x ≠ b → H'.get x = some kx → φ' x = some ix → ix.rb ≠ i.rb := by
    intro x kx ix _ ex px heq
    rcases hx.live x kx ix ex px with h1 | ⟨b0, k0, i0, g1, _, g3, g4⟩
    · omega
    · obtain ⟨hne, g1⟩ := hin b0 k0 g1
      exact h.sep b b0 k k0 i i0 e g1 hi g3 (fun q => hne q.symm) hk (by rw [g4, heq])
  constructor
  · refine ⟨h'.zero, h'.pos, h'.fresh, fun x kx ex => ?_, fun x y k1 k2 i1 i2 ex ey p1 p2 hne hrw => ?_⟩
    · rw [set_get] at ex
      by_cases hxb : x = b
      · rw [if_pos hxb] at ex
        obtain rfl := Option.some.inj ex
        exact ⟨i, hxb ▸ hi', hblk'⟩
      · rw [if_neg hxb] at ex
        exact h'.dom x kx ex
    · rw [set_get] at ex ey
      by_cases hxb : x = b
      · subst hxb
        rw [hi'] at p1
        obtain rfl := Option.some.inj p1
        rw [if_neg (fun q => hne q.symm)] at ey
        exact fun q => apart y k2 i2 (fun q => hne q.symm) ey p2 q.symm
      · rw [if_neg hxb] at ex
        by_cases hyb : y = b
        · subst hyb
          rw [hi'] at p2
          obtain rfl := Option.some.inj p2
          exact apart x k1 i1 hxb ex p1
        · rw [if_neg hyb] at ey
          exact h'.sep x y k1 k2 i1 i2 ex ey p1 p2 hne hrw
  · refine ⟨hx.phi, hx.size, fun r hr hn => hx.kept r hr fun x kx ix ex hrw px => hn x kx ix (hin x kx ex).2 hrw px, fun x hxn => hx.back x hxn, fun x kx ix ex px => ?_, fun x es c ex => ?_, hx.next, hx.os, hx.out⟩
    · rw [set_get] at ex
      by_cases hxb : x = b
      · subst hxb
        rw [if_pos rfl] at ex
        obtain rfl := Option.some.inj ex
        rw [hi'] at px
        obtain rfl := Option.some.inj px
        exact .inr ⟨x, k, i, e, id, hi, rfl⟩
      · rw [if_neg hxb] at ex
        rcases hx.live x kx ix ex px with h1 | ⟨b0, k0, i0, g1, g2, g3, g4⟩
        · exact .inl h1
        · exact .inr ⟨b0, k0, i0, (hin b0 k0 g1).2, g2, g3, g4⟩
    · have hxb : x ≠ b := by
        rintro rfl
        rw [e] at ex
        obtain rfl := Option.some.inj ex
        cases hk
      rw [set_get, if_neg hxb]
      refine hx.ro x es c ?_
      rw [drop_get, if_neg hxb]
      exact ex

/-- Nothing is known, and the next number is this one. -/
def Heap.void (σ : Nat) : Heap := ⟨σ, fun _ => none⟩

/-- **A new block under a number that was kept for it.** -/
theorem alloc_at {P : Program} {o : Oper} {a : Act} {w : World} {φ : Phi} {H : Heap} {σ : Nat} {e0 : Env} {v : Value} {k : Blk}
    (hop : lopW P e0 o (Heap.void σ) fun u H' => u = v ∧ H' = (Heap.void σ).alloc k) (ha0 : ARel (fun _ => none) e0 a) (hw : HR φ H w) (hσ0 : 0 < σ) (hσ : σ < H.next) (hφ : φ σ = none) (hg : H.get σ = none) :
    ∃ v' w' i, ((execOp a.eval o).run P w = .ok (.value v') w' ∨ (execOp a.eval o).run P w = .ok .skip w' ∧ v' = undef) ∧ VR (φ.add σ i) v v' ∧ HR (φ.add σ i) (H.set σ k) w' ∧
      ∀ φ0 H0 w0, Ext φ0 H0 w0 φ H w → H0.next ≤ σ → Ext φ0 H0 w0 (φ.add σ i) (H.set σ k) w' := by
  have hvoid : HR (fun _ => none) (Heap.void σ) w := ⟨rfl, hσ0, (fun b i h => by cases h), (fun b k h => by cases h), fun b b' k k' i i' h => by cases h⟩
  have hpost := lopW_sound hop ha0 hvoid
  have key : ∀ u' w', (∃ u H' φ1, (u = v ∧ H' = (Heap.void σ).alloc k) ∧ VR φ1 u u' ∧ HR φ1 H' w' ∧ Ext (fun _ => none) (Heap.void σ) w φ1 H' w') →
      ∃ i, VR (φ.add σ i) v u' ∧ HR (φ.add σ i) (H.set σ k) w' ∧ ∀ φ0 H0 w0, Ext φ0 H0 w0 φ H w → H0.next ≤ σ → Ext φ0 H0 w0 (φ.add σ i) (H.set σ k) w' := by
    rintro u' w' ⟨u, H', φ1, ⟨rfl, rfl⟩, h1, h2, h3⟩
    have hgk : ((Heap.void σ).alloc k).get σ = some k := by rw [alloc_get]; exact if_pos rfl
    obtain ⟨i, hi, hblk⟩ := h2.dom σ k hgk
    have honly : ∀ b j, φ1 b = some j → b = σ := by
      intro b j hb
      have hb1 := h2.fresh b j hb
      have hb1' : b < σ + 1 := hb1
      rcases Nat.lt_or_ge b σ with h | h
      · have := h3.back b h
        rw [hb] at this
        cases this
      · omega
    have hle1 : φ1.le (φ.add σ i) := by
      intro b j hb
      have := honly b j hb
      subst this
      rw [hi] at hb
      rw [← hb]
      exact if_pos rfl
    have hle : φ.le (φ.add σ i) := by
      intro b j hb
      have : b ≠ σ := by rintro rfl; rw [hφ] at hb; cases hb
      show (if b = σ then some i else φ b) = some j
      rw [if_neg this]; exact hb
    have hnew : w.heap.size ≤ i.rb := by
      rcases h3.live σ k i hgk hi with h | ⟨b0, k0, i0, g1, _⟩
      · exact h
      · cases g1
    have hkept : ∀ r, r < w.heap.size → w'.heap[r]? = w.heap[r]? := fun r hr => h3.kept r hr fun b k i h => by cases h
    have hold : ∀ (x : Nat) (_ : BI), x ≠ σ → (φ.add σ i) x = φ x := fun x _ hx => if_neg hx
    have hself : (φ.add σ i) σ = some i := if_pos rfl
    refine ⟨i, h1.mono hle1, ⟨?_, hw.pos, fun b j hb => ?_, fun x kx ex => ?_, fun x y k1 k2 i1 i2 ex ey p1 p2 hne hrw => ?_⟩, fun φ0 H0 w0 hx hn => ⟨Phi.le_trans hx.phi hle, Nat.le_trans hx.size h3.size, fun r hr hnr => ?_, fun b hb => ?_, fun x kx ix ex px => ?_, fun x es c ex => ?_, hx.next, h3.os.trans hx.os, h3.out.trans hx.out⟩⟩
    · show (if 0 = σ then some i else φ 0) = none
      rw [if_neg (by omega)]; exact hw.zero
    · by_cases hb' : b = σ
      · subst hb'; exact hσ
      · rw [hold b j hb'] at hb; exact hw.fresh b j hb
    · rw [set_get] at ex
      by_cases hxs : x = σ
      · rw [if_pos hxs] at ex
        obtain rfl := Option.some.inj ex
        exact ⟨i, hxs ▸ hself, hblk.mono hle1 rfl⟩
      · rw [if_neg hxs] at ex
        obtain ⟨j, hj, hb⟩ := hw.dom x kx ex
        exact ⟨j, by rw [hold x j hxs]; exact hj, hb.mono hle (hkept _ (hw.lt ex hj))⟩
    · rw [set_get] at ex ey
      by_cases hxs : x = σ
      · subst hxs
        rw [hself] at p1
        obtain rfl := Option.some.inj p1
        rw [if_neg (fun q => hne q.symm)] at ey
        rw [hold y i2 (fun q => hne q.symm)] at p2
        have := hw.lt ey p2
        omega
      · rw [if_neg hxs] at ex
        rw [hold x i1 hxs] at p1
        have hxl := hw.lt ex p1
        by_cases hys : y = σ
        · subst hys
          rw [hself] at p2
          obtain rfl := Option.some.inj p2
          omega
        · rw [if_neg hys] at ey
          rw [hold y i2 hys] at p2
          exact hw.sep x y k1 k2 i1 i2 ex ey p1 p2 hne hrw
    · rw [hkept r (Nat.lt_of_lt_of_le hr hx.size)]
      exact hx.kept r hr hnr
    · rw [hold b i (by omega)]; exact hx.back b hb
    · rw [set_get] at ex
      by_cases hxs : x = σ
      · subst hxs
        rw [hself] at px
        obtain rfl := Option.some.inj px
        exact .inl (Nat.le_trans hx.size hnew)
      · rw [if_neg hxs] at ex
        rw [hold x ix hxs] at px
        exact hx.live x kx ix ex px
    · have h4 := hx.ro x es c ex
      have hxs : x ≠ σ := by rintro rfl; rw [hg] at h4; cases h4
      rw [set_get, if_neg hxs]
      exact h4
  generalize hr : (execOp a.eval o).run P w = res at hpost
  unfold WPost at hpost
  split at hpost
  · rename_i u' w'
    obtain ⟨i, q⟩ := key u' w' hpost
    exact ⟨u', w', i, .inl rfl, q⟩
  · rename_i w'
    obtain ⟨u, H', φ1, h1, h2, h3⟩ := hpost
    obtain ⟨i, q⟩ := key undef w' ⟨u, H', φ1, h1, h2, h3⟩
    exact ⟨undef, w', i, .inr ⟨rfl, rfl⟩, q⟩
  · exact hpost.elim

end Go.Lift
