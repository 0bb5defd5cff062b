/- The interpreter is sound: what it answers, the program answers. -/
import Derived.Test.YtmbonddknackiaaVxDraw4
namespace Go.Vx
open Go.RowKit
def X.exit':X→Exit
 |.normal=>.normal
 |.exit id=>.exit id
 |.ret=>.ret
section
variable {C:Cx} {base:Nat}
structure Good (C:Cx):Prop where
 mixed:C.P.follows .mixedOrders=true
 eqs:LX C.P C.eqs
 zeros:Ca C.P
 lows:Pq C
 fns:∀f fn,f<C.top→C.told f=none→C.P.funcs[f]?=some fn→W2 C.P fn=true
 keep:Ny C
 told:∀base f g,C.told f=some g→FK C base fun lo f' args h=>if f'=f then g lo args h else none
def gG (C:Cx) (base n:Nat):Prop:=∀lo c e h x e' h',ex C n lo c e h=some (x,e',h')→DF C.P c=true→∀(φ:Cy) (w:World) (a:Act),ER φ e a→HR base φ h w→Bd C base w→
 (∀i,h.n≤i→i<h'.n→φ i=none)→∀Q:Exit→Act→World→Prop,(∀φ' w' a',ER φ' e' a'→Step base lo φ φ' h h' w w'→Q x.exit' a' w')→c.wp C.P Q a w
theorem Me {φ:Cy} {w:World} {h:H} {e:BF} {tmps:Array Value} (hh:HR base φ h w) (he:∀t,VR φ (e.getD t undef) (tmps.getD t undef)):
  ∀(rs:List ResultVar) (vs:List Value),Db C e h rs=some vs→
   ∃vs':List Value,(rs.mapM fun|.tmp t=>pure (tmps.getD t undef)|.cell a t=>do loadVar t (←asAddr (tmps.getD a undef)):Sem (List Value)).run C.P w=.ok vs' w∧All2 (AR φ) vs vs'
 |[],vs,hx=>by simp only [Db] at hx;cases hx;exact ⟨[],by simp,All2.nil⟩
 |r::rs,vs,hx=>by
  simp only [Db] at hx
  split at hx
  ·rename_i v vs1 h1 h2
   split at hx
   ·cases hx
   ·rename_i ht
    cases hx
    obtain ⟨vs',g1,g2⟩:=Me hh he rs vs1 h2
    have hv:∃v',(match r with|.tmp t=>pure (tmps.getD t undef)|.cell a t=>do loadVar t (←asAddr (tmps.getD a undef)):Sem Value).run C.P w=.ok v' w∧VR φ v v':=by
     cases r with
     |tmp t=>simp only [LK,F0] at h1;cases h1;exact ⟨_,rfl,he t⟩
     |cell a t=>
      simp only [LK,F0] at h1
      have hp:=he a
      obtain ⟨v',g3,g4⟩:=Pm hh h1 hp
      have h1':=h1
      unfold G0 at h1'
      simp only [H.getK_eq] at h1'
      split at h1'
      ·rename_i q hq
       rw [hq] at hp
       obtain ⟨l,_,hl⟩:=hp.ptr
       rw [hl] at g3
       show ∃v',(do loadVar t (←asAddr (tmps.getD a undef)):Sem Value).run C.P w=.ok v' w∧VR φ v v'
       rw [hl]
       exact ⟨v',by simpa [Instr.loadAt,Instr.sureAddr,asAddr] using g3,g4⟩
      ·cases h1'
    obtain ⟨v',g3,g4⟩:=hv
    have hnt:∀xs,v≠.tuple xs:=fun xs e=>by subst e;simp [Dv] at ht
    rw [VR.ar hnt] at g4
    refine ⟨v'::vs',?_,⟨by simp [g2.1],fun i u hu=>?_⟩⟩
    ·simp only [List.mapM_cons,Sem.run_bind,g3,g1,Result.andThen,Sem.run_pure]
    ·cases i with
     |zero=>simp at hu;subst hu;exact ⟨v',by simp,g4⟩
     |succ i=>simp at hu ⊢;exact g2.2 i u hu
  ·cases hx
theorem VR.one {φ:Cy} {vs vs':List Value} (h:All2 (AR φ) vs vs'):VR φ (Vx.one vs) (if h:vs'.toArray.size=1 then vs'.toArray[0] else .tuple vs'.toArray):=by
 match vs,vs',h with
 |[],[],h=>exact ⟨_,rfl,h⟩
 |[v],[v'],h=>
  obtain ⟨u,hu,hr⟩:=h.2 0 v (by simp)
  simp at hu;subst hu
  exact hr.vr
 |v::v2::vs,w::w2::ws,h=>exact ⟨_,rfl,h⟩
 |[],_::_,h=>have:=h.1;simp at this
 |_::_,[],h=>have:=h.1;simp at this
 |[_],_::_::_,h=>have:=h.1;simp at this
 |_::_::_,[_],h=>have:=h.1;simp at this
theorem Ux (G:Good C) {n:Nat} (hs:gG C base n):FK C base (Ei C (ex C n)):=by
 intro lo f args h v h' hx φ w args' hh hb ha hn
 unfold Ei at hx
 split at hx
 ·rename_i g hg
  exact G.told base f g hg lo f args h v h' (by simpa using hx) φ w args' hh hb ha hn
 ·rename_i htold
  split at hx
  ·rename_i htop
   have htop:f<C.top:=Nat.le_of_ble_eq_true htop
   split at hx
   ·cases hx
   ·rename_i fn hf
    have hf:C.P.funcs[f]?=some fn:=by rw [Cf] at hf;simpa using hf
    split at hx
    ·cases hx
    ·rename_i c hbody
     have hok:=G.fns f fn htop htold hf
     unfold W2 at hok
     rw [hbody] at hok
     simp only [Bool.and_eq_true,Bool.not_eq_true'] at hok
     left
     have hname:¬fn.name= "runtime.NumGoroutine" :=by simpa using hok.2
     refine ⟨by simp [callFunc,hf,hname,hbody],?_⟩
     have hsz:args'.size=args.length:=by rw [ha.1];simp
     have her:ER φ (args++List.replicate (fn.ntmps - args.length) undef) {tmps:=args'++Array.replicate (fn.ntmps - args'.size) undef,defers:=[]}:=by
      refine ⟨by simp [hsz],fun t=>?_,rfl⟩
      by_cases ht:t<args.length
      ·obtain ⟨u,hu,hr⟩:=ha.2 t _ (List.getElem?_eq_getElem ht)
       have e1:(args++List.replicate (fn.ntmps - args.length) undef).getD t undef=args[t]:=by
        rw [List.getD,List.getElem?_append_left ht,List.getElem?_eq_getElem ht];rfl
       have e2:(args'++Array.replicate (fn.ntmps - args'.size) undef).getD t undef=u:=by
        have:(args'++Array.replicate (fn.ntmps - args'.size) undef)[t]?=some u:=by
         rw [Array.getElem?_append_left (by omega)];simpa using hu
        simp [Array.getD_eq_getD_getElem?,this]
       rw [e1,e2];exact hr
      ·have e1:(args++List.replicate (fn.ntmps - args.length) undef).getD t undef=undef:=by
        rw [List.getD,List.getElem?_append_right (by omega),List.getElem?_replicate];split<;>rfl
       have e2:(args'++Array.replicate (fn.ntmps - args'.size) undef).getD t undef=undef:=by
        rw [Array.getD_eq_getD_getElem?,Array.getElem?_append_right (by omega),Array.getElem?_replicate];split<;>rfl
       rw [e1,e2];exact VR.undef
     have fin:∀(x:X) (e:BF) (h1:H) (vs:List Value),(x=.normal∨x=.ret)→ex C n lo c (args++List.replicate (fn.ntmps - args.length) undef) h=some (x,e,h1)→Db C e h1 fn.results.toList=some vs→v=one vs→h'=h1→
       Calls C.P f args' w (fun en w'=>∃v',en=.returned v'∧∃φ',VR φ' v v'∧Step base lo φ φ' h h' w w'):=by
      intro x e h1 vs hxx hrun hres hv hh1
      subst hv;subst hh1
      refine calls_of_wp hf hbody (hs lo c _ h x e h' hrun hok.1 φ w _ her hh hb hn _ fun φ' w' a' he' hst=>?_)
      obtain ⟨vs',g1,g2⟩:=Me (C:=C) hst.heap he'.val fn.results.toList vs hres
      have hb1:bodyPost C.P fn (fun en w'=>∃v',en=.returned v'∧∃φ',VR φ' (one vs) v'∧Step base lo φ φ' h h' w w') .normal a' w':=by
       refine ⟨he'.defers,_,?_,_,rfl,φ',VR.one g2,hst⟩
       simp only [results,Sem.run_bind,Array.mapM_eq_mapM_toList,Sem.run_map,Sem.run_pure]
       erw [g1]
       rfl
      rcases hxx with rfl|rfl
      ·exact hb1
      ·exact hb1
     split at hx
     ·rename_i e h1 h2
      split at hx
      ·rename_i vs hvs
       cases hx
       exact fin .normal e _ vs (.inl rfl) h2 hvs rfl rfl
      ·cases hx
     ·rename_i e h1 h2
      split at hx
      ·rename_i vs hvs
       cases hx
       exact fin .ret e _ vs (.inr rfl) h2 hvs rfl rfl
      ·cases hx
     ·cases hx
  ·cases hx
theorem bJ {p:Nat→Prop} (h:∃n,p n):∃n,p n∧∀m,p m→n≤m:=by
 obtain ⟨n,hn⟩:=h
 induction n using Nat.strongRecOn with
 |_ n ih=>
  by_cases hc:∃m,m<n∧p m
  ·obtain ⟨m,h1,h2⟩:=hc;exact ih m h1 h2
  ·exact ⟨n,hn,fun m hm=>by apply Classical.byContradiction;intro hlt;exact hc ⟨m,by omega,hm⟩⟩
theorem PP {φ φ1:Cy} {h h1 h2:H} {w w1:World} {lo:Nat} (st:Step base lo φ φ1 h h1 w w1) (hn:∀i,h.n≤i→i<h2.n→φ i=none):∀i,h1.n≤i→i<h2.n→φ1 i=none:=by
 intro i i1 i2
 have:=hn i (Nat.le_trans st.n i1) i2
 cases hφ:φ1 i with
 |none=>rfl
 |some l=>
  rcases st.dom i (by rw [hφ];simp) with hd|hd
  ·exact absurd this hd
  ·omega
theorem gV (G:Good C):∀n,gG C base n:=by
 intro n
 induction n using Nat.strongRecOn with
 |_ n ih=>
  intro lo c e h x e' h' hx hok φ w a he hh hb hn Q hQ
  cases n with
  |zero=>rw [F7] at hx;cases hx
  |succ n=>
   have hs:=ih n (Nat.lt_succ_self n)
   have hc:=Ux G hs
   have hkeep:∀lo c e h x e' h',ex C n lo c e h=some (x,e',h')→Keep lo h h':=V1 G.keep n
   have hk:=OZ G.keep hkeep
   rw [Cg] at hx
   unfold H2 at hx
   split at hx
   ·cases hx;exact wp_skip (hQ φ w a he (Step.refl hh))
   ·
    rename_i id ops draw
    unfold D9 at hx
    split at hx
    ·split at hx
     ·rename_i e1 h1 hr
      cases hx
      simp only [DF,V0,Bool.not_false,Bool.true_or,Bool.and_true,List.all_eq_true] at hok
      refine wp_region ?_
      have:=Vp G.lows G.eqs G.zeros hc hk (Q:=Q) hok ops.toList 0 e _ h _ φ w a rfl hr he hh hb hn hQ
      rw [List.range_eq_range']
      simpa using this
     ·cases hx
    ·split at hx
     ·rename_i e1 h1 tr hr
      split at hx
      ·rename_i htr
       cases hx
       simp only [DF,V0,Bool.not_true,Bool.false_or,Bool.and_eq_true,List.all_eq_true] at hok
       exact YO G.lows G.mixed G.eqs G.zeros hc hk hok.1 hok.2 hr htr he hh hb hn hQ
      ·cases hx
     ·cases hx
   ·
    rename_i c1 c2
    simp only [DF,Bool.and_eq_true] at hok
    unfold Gn at hx
    split at hx
    ·rename_i e1 h1 hr
     have k2:=(hkeep _ _ _ _ _ _ _ hx).n
     refine wp_seq (hs lo c1 e h _ e1 h1 hr hok.1 φ w a he hh hb (fun i i1 i2=>hn i i1 (Nat.lt_of_lt_of_le i2 k2)) _ fun φ1 w1 a1 he1 st=>?_)
     show c2.wp C.P Q a1 w1
     exact hs lo c2 e1 h1 x e' h' hx hok.2 φ1 w1 a1 he1 st.heap (hb.step G.lows st.below) (PP st hn) Q fun φ2 w2 a2 he2 st2=>hQ φ2 w2 a2 he2 (st.trans st2 hn)
    ·rename_i hne
     refine wp_seq (hs lo c1 e h x e' h' hx hok.1 φ w a he hh hb hn _ fun φ1 w1 a1 he1 st=>?_)
     have:=hQ φ1 w1 a1 he1 st
     cases x with
     |normal=>exact absurd hx (hne e' h')
     |exit id=>exact this
     |ret=>exact this
   ·
    rename_i t c1 c2
    simp only [DF,Bool.and_eq_true] at hok
    have hev:=he.ev hok.1.1
    unfold I2 at hx
    split at hx
    ·rename_i hc1
     rw [hc1] at hev
     exact wp_cond_true hev.bool (hs lo c1 e h x e' h' hx hok.1.2 φ w a he hh hb hn Q hQ)
    ·rename_i hc1
     rw [hc1] at hev
     exact wp_cond_false hev.bool (hs lo c2 e h x e' h' hx hok.2 φ w a he hh hb hn Q hQ)
    ·cases hx
   ·
    rename_i id c1
    simp only [DF] at hok
    refine wp_block ?_
    unfold Do at hx
    split at hx
    ·rename_i i e1 h1 hr
     refine hs lo c1 e h _ e1 h1 hr hok φ w a he hh hb ?_ _ fun φ1 w1 a1 he1 st=>?_
     ·split at hx<;>(cases hx;exact hn)
     ·show (if i=id then Q .normal a1 w1 else Q (.exit i) a1 w1)
      split at hx
      ·rename_i hid;cases hx;rw [if_pos (Nat.eq_of_beq_eq_true hid)];exact hQ φ1 w1 a1 he1 st
      ·rename_i hid;cases hx;rw [if_neg (Nat.ne_of_beq_eq_false hid)];exact hQ φ1 w1 a1 he1 st
    ·rename_i hne
     refine hs lo c1 e h x e' h' hx hok φ w a he hh hb hn _ fun φ1 w1 a1 he1 st=>?_
     have:=hQ φ1 w1 a1 he1 st
     cases x with
     |normal=>exact this
     |exit i=>exact absurd hx (hne i e' h')
     |ret=>exact this
   ·
    rename_i c1
    simp only [DF] at hok
    have hx':ex C (n+1) lo (.loop c1) e h=some (x,e',h'):=by rw [Cg];exact hx
    let J:Nat→Act→World→Prop:=fun m a1 w1=>m≤n+1∧∃e1 h1 φ1,ex C m lo (.loop c1) e1 h1=some (x,e',h')∧ER φ1 e1 a1∧Step base lo φ φ1 h h1 w w1
    have hJ:J (n+1) a w:=⟨Nat.le_refl _,e,h,φ,hx',he,Step.refl hh⟩
    let μ:Act→World→Nat:=fun a1 w1=>open Classical in if hex:∃m,J m a1 w1 then Classical.choose (bJ hex) else 0
    have hμ:∀a1 w1 m,J m a1 w1→J (μ a1 w1) a1 w1∧μ a1 w1≤m:=fun a1 w1 m hm=>by
     have hex:∃m,J m a1 w1:=⟨m,hm⟩
     have h1:=Classical.choose_spec (bJ hex)
     have h2:μ a1 w1=Classical.choose (bJ hex):=dif_pos hex
     rw [h2]
     exact ⟨h1.1,h1.2 m hm⟩
    refine wp_loop (fun a1 w1=>∃m,J m a1 w1) μ ⟨n+1,hJ⟩ ?_
    rintro a1 w1 ⟨m0,hm0⟩
    obtain ⟨⟨hle,e1,h1,φ1,hx1,he1,st1⟩,_⟩:=hμ a1 w1 m0 hm0
    cases hm:μ a1 w1 with
    |zero=>rw [hm,F7] at hx1;cases hx1
    |succ m=>
     rw [hm] at hx1 hle
     have hsm:=ih m (by omega)
     have hkm:=V1 G.keep m
     rw [Cg] at hx1
     unfold H2 Gn at hx1
     simp only at hx1
     have hn1:=PP st1 hn
     split at hx1
     ·rename_i e2 h2 hr
      have k2:=(hkm _ _ _ _ _ _ _ hx1).n
      refine hsm lo c1 e1 h1 _ e2 h2 hr hok φ1 w1 a1 he1 st1.heap (hb.step G.lows st1.below) (fun i i1 i2=>hn1 i i1 (Nat.lt_of_lt_of_le i2 k2)) _ fun φ2 w2 a2 he2 st2=>?_
      have hJ2:J m a2 w2:=⟨by omega,e2,h2,φ2,hx1,he2,st1.trans st2 (fun i i1 i2=>hn i i1 (Nat.lt_of_lt_of_le i2 k2))⟩
      exact ⟨⟨m,hJ2⟩,Nat.lt_succ_of_le (hμ a2 w2 m hJ2).2⟩
     ·rename_i hne
      refine hsm lo c1 e1 h1 x e' h' hx1 hok φ1 w1 a1 he1 st1.heap (hb.step G.lows st1.below) hn1 _ fun φ2 w2 a2 he2 st2=>?_
      have:=hQ φ2 w2 a2 he2 (st1.trans st2 hn)
      cases x with
      |normal=>exact absurd hx1 (hne e' h')
      |exit i=>exact this
      |ret=>exact this
   ·cases hx;exact wp_exit (hQ φ w a he (Step.refl hh))
   ·cases hx;exact wp_ret (hQ φ w a he (Step.refl hh))
   ·cases hx
theorem O6 (G:Good C) {n lo:Nat} {f:FuncId} {args:List Value} {h h':H} {v:Value} (hx:dN C n lo f args h=some (v,h'))
  (htold:C.told f=none) {φ:Cy} {w:World} {args':Array Value} (hh:HR base φ h w) (hb:Bd C base w) (ha:All2 (VR φ) args args'.toList) (hn:∀i,h.n≤i→i<h'.n→φ i=none):
  Calls C.P f args' w fun e w'=>∃v',e=.returned v'∧∃φ',VR φ' v v'∧Step base lo φ φ' h h' w w':=by
 rcases Ux G (gV (base:=base) G n) lo f args h v h' hx φ w args' hh hb ha hn with ⟨_,h1⟩|⟨v',w',h1,_⟩
 ·exact h1
 ·exfalso
  unfold dN Ei at hx
  rw [htold] at hx
  simp only at hx
  split at hx
  ·rename_i htop
   have htop:f<C.top:=Nat.le_of_ble_eq_true htop
   split at hx
   ·cases hx
   ·rename_i fn hf
    have hf:C.P.funcs[f]?=some fn:=by rw [Cf] at hf;simpa using hf
    split at hx
    ·cases hx
    ·rename_i c hbody
     have hok:=G.fns f fn htop htold hf
     unfold W2 at hok
     rw [hbody] at hok
     simp only [Bool.and_eq_true,Bool.not_eq_true'] at hok
     have hname:¬fn.name= "runtime.NumGoroutine" :=by simpa using hok.2
     simp [callFunc,hf,hname,hbody] at h1
  ·cases hx
end
end Go.Vx
