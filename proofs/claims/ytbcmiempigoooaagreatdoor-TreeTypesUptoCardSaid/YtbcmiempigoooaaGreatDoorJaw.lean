/- Texts of mine for the claims about layer 2 (tree), joined: EngX. -/
import Derived.Test.YtbcmiempigoooaaGreatDoorJav
set_option linter.all false
set_option linter.unusedSimpArgs false
set_option linter.unusedVariables false
namespace Go.Eng
open Go.RowKit
section
variable (P:Program) (ops:Array Oper) (V:List Nat)
def ordTk (sk : List Nat) (n : Nat) : Nat → Bool → Array Bool → Option OT
  |0,_,listed=>if (Region.ready .any ops listed).isEmpty then some .done else none
  | f + 1, hd, listed =>
    if (Region.ready .any ops listed).isEmpty then some .done else
    match (if hd then (Region.ready .any ops listed).find? (fun i=>decide (i<n)&& !sk.contains i&&Region.free .any ops listed i&&(asgOf P ops V i).isSome) else none) with
    |some i=>match asgOf P ops V i with
      |some (g,d,e)=>(ordTk sk n f hd (listed.setIfInBounds i true)).map (.take g d e)
      |none=>none
    |none=>combT ((Region.ready .any ops listed).map fun i=>match stOf P ops V i with
      |some s=>(ordTk sk n f (hd&&decide (i<n)) (listed.setIfInBounds i true)).map (.step s (decide (i<n)))
      |none=>none)
end
def ordOfK (P : Program) (nt : Nat) (V : List Nat) (sk : List Nat) (n : Nat) : Code → Option OT
  | .region _ ops true=>
    if regionB ops nt&&Region.noSelect ops&&P.follows .mixedOrders&&(decide (n=ops.size)||(decide (n<ops.size)&&Region.sinkB .any ops n&&Region.chainB .any ops n)) then ordTk P ops V sk n ops.size true (Array.replicate ops.size false) else none
  |_=>none
section
variable {cx:Cx} {ops:Array Oper}
theorem ordTk_sem (hr : Region1 cx.n ops) (hsel : Region.noSelect ops = true) {sk : List Nat} {n : Nat} (hn : n = ops.size ∨ (n < ops.size ∧ Region.sinkB .any ops n = true ∧ Region.chainB .any ops n = true)) {S : World → Prop} {K : Env → World → Prop} {Q : Ks} (hrd : ¬ Q.rd) (hdf : Q.df → cx.D ≠ []) :
    ∀(f:Nat) (hd:Bool) (listed:Array Bool) (t:OT),ordTk cx.P ops cx.V sk n f hd listed=some t→(∀d∈t.takes,∀ρ v c w,Q.pn (upd ρ d v) c w→Q.pn ρ c w)→(hd=true→HeadInv .any ops n listed)→∀(ρ:Env) (a:Act) (w:World),Agree cx.n cx.V ρ a→dOk cx a→(hd=true→S w)→
      t.wp cx.P Q S K ρ w→wpAnyT cx.P .any ops (lift cx K Q) S n f listed a w
  |0,hd,listed,t,h,_,_,ρ,a,w,ha,hD,_,hw=>by
    simp only [ordTk] at h
    split at h
    · rename_i he;cases h;exact ⟨by simpa using he,hD,ρ,ha,hw⟩
    · cases h
  | f + 1, hd, listed, t, h, hpn, hinv, ρ, a, w, ha, hD, hS, hw => by
    simp only [ordTk] at h
    split at h
    · rename_i he
      cases h
      have he':Region.ready .any ops listed=[]:=by simpa using he
      exact ⟨fun _=>⟨hD,ρ,ha,hw⟩,by rw [he'];simp⟩
    · rename_i he
      have he':Region.ready .any ops listed≠[]:=by simpa using he
      split at h
      · rename_i i hi
        split at hi
        · rename_i hhd
          have hmem:=List.mem_of_find?_eq_some hi
          have hprop:=List.find?_some hi
          simp only [Bool.and_eq_true,decide_eq_true_eq] at hprop
          obtain ⟨⟨⟨hin,_⟩,hfree⟩,_⟩:=hprop
          split at h
          · rename_i g d e hasg
            simp only [Option.map_eq_some_iff] at h
            obtain ⟨t',ht',rfl⟩:=h
            simp only [OT.wp] at hw
            have key:∀v,(if gd ρ g then (∀w',S w'→e.ev ρ w'=some v) else v=undef)→t'.wp cx.P Q S K (upd ρ d v) w→wpAnyT cx.P .any ops (lift cx K Q) S n (f+1) listed a w:=by
              intro v hv hk
              obtain ⟨o,ho,hd',hV,hy⟩:=asg_yields hr hasg ha hv
              refine wpAnyT_first ho (Region.noSelect_spec hsel) hn hin (fun c a w h1=> ?_) f listed a w (hinv hhd) (Region.free_spec ho hfree) hmem hy (hS hhd) ?_
              · exact pn_put hd' hV (hpn d (by simp [OT.takes])) c a w h1
              · rw [hd']
                exact ordTk_sem hr hsel hn hrd hdf f hd _ t' ht' (fun x hx=>hpn x (by simp [OT.takes,hx])) (fun h1=>(hinv h1).set hmem hin) _ _ w (ha.put hV v) (fun e=>(put_defers _ _ _).trans (hD e)) hS hk
            by_cases hgd:gd ρ g=true
            · rw [if_pos hgd] at hw
              unfold onV at hw
              split at hw
              · obtain ⟨h1,h2⟩:=hw
                exact key _ (by rw [if_pos hgd];exact h1) h2
              · cases hw
            · rw [if_neg hgd] at hw
              exact key undef (by rw [if_neg hgd]) hw
          · cases h
        · cases hi
      · refine ⟨fun h0=>absurd h0 he',fun i hi=> ?_⟩
        obtain ⟨t',ht',hw'⟩:=combT_wp h hw _ (List.mem_map.2 ⟨i,hi,rfl⟩)
        split at ht'
        · rename_i s hs
          simp only [Option.map_eq_some_iff] at ht'
          obtain ⟨t2,ht2,rfl⟩:=ht'
          simp only [OT.wp] at hw'
          refine wpOp_mono ?_ (step_sem hr hs ha hD hrd hdf hw')
          rintro a' w' ⟨hD',ρ',ha',hS',hk'⟩
          refine ⟨fun hlt=>hS' (by simpa using hlt),ordTk_sem hr hsel hn hrd hdf f _ _ t2 ht2 (fun x hx=>hpn x (combT_takes h (.step s (decide (i<n)) t2) (List.mem_map.2 ⟨i,hi,by simp only [hs,ht2,Option.map_some]⟩) x (by simpa [OT.takes] using hx))) (fun h1=> ?_) ρ' a' w' ha' hD' (fun h1=> ?_) hk'⟩
          · simp only [Bool.and_eq_true,decide_eq_true_eq] at h1
            exact (hinv h1.1).set hi h1.2
          · simp only [Bool.and_eq_true,decide_eq_true_eq] at h1
            exact hS' (by simpa using h1.2)
        · cases ht'
theorem raw_ordK {c:Code} {sk:List Nat} {n:Nat} {t:OT} (h:ordOfK cx.P cx.n cx.V sk n c=some t) (S:World→Prop) {K:Env→World→Prop} {Q:Ks} {ρ:Env} {w:World}
    (hw:∀w',Ext w w'→w'.heap=w.heap→S w'∧t.wp cx.P Q.noRd S K ρ w') (hpn:∀d∈t.takes,∀ρ v c w,Q.pn (upd ρ d v) c w→Q.pn ρ c w:=by exact fun _ _ _ _ _ _ h=>h):(IR.raw c).wp cx K Q ρ w:=by
  intro a ha hD hdf
  unfold ordOfK at h
  split at h
  · rename_i id ops
    split at h
    · rename_i hc
      simp only [Bool.and_eq_true,Bool.or_eq_true,decide_eq_true_eq] at hc
      obtain ⟨⟨⟨h1,h2⟩,h3⟩,h4⟩:=hc
      obtain ⟨hS,hk⟩:=hw {w with drawn:=w.drawn+1} ⟨rfl,rfl,rfl,Nat.le_refl _,fun _ _=>rfl⟩ rfl
      refine wp_region_any h3 (wpAny_of_T _ _ _ _ (ordTk_sem (regionB_spec h1) h2 (by rcases h4 with h4|h4;exact .inl h4;exact .inr ⟨h4.1.1,h4.1.2,h4.2⟩) (Q:=Q.noRd) (fun h=>h) hdf _ _ _ t h hpn (fun _=>headInv0) ρ a _ ha hD (fun _=>hS) hk))
    · cases h
  · cases h
end
end Go.Eng
