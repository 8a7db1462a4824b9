import Derived.Test.YtknchlpcpgflkaaGreatDoorKGAD
import Derived.Test.YtknchlpcpgflkaaGreatDoorSo
import Derived.Test.YtknchlpcpgflkaaGreatDoorKGAE
set_option maxRecDepth 100000
set_option maxHeartbeats 16000000
namespace Go.Proofs.YtknchlpcpgflkaaGreatDoor
open Go.RowKit Go.Shelf Go.Lib Go.Sort
abbrev BStop := {s:Stp2 // -4000000≤s.1∧s.1≤4000000}
noncomputable instance:Inhabited BStop:=⟨⟨(0,0),by decide⟩⟩
def encB (x:BStop):List Value:=encStop x.1
def cfB (x y:BStop):Int:=x.1.1 - y.1.1
theorem ltB_ (x y:BStop):ltOf cfB x y=decide (x.1.1<y.1.1):=by
 unfold ltOf cfB;rw [decide_eq_decide];omega
theorem swoB:SWO (ltOf cfB) where
 irrefl x:=by rw [ltB_];simp
 trans x y z h1 h2:=by rw [ltB_] at *;simp at *;omega
 ntrans x y z h1 h2:=by rw [ltB_] at *;simp at *;omega
theorem cmp_any (x y:BStop) (W:World):Calls Tryz.prog 92 #[.agg (encB x).toArray,.agg (encB y).toArray] W fun e w'=>e = .returned (.int .i64 (cfB x y))∧∃ q os',w'=grow (W.drewN q) os':=by
 obtain ⟨⟨a,b⟩,h1,h2⟩:=x;obtain ⟨⟨c,d⟩,h3,h4⟩:=y;show Calls Tryz.prog 92 #[.agg #[.int .i64 a,.int .i64 b],.agg #[.int .i64 c,.int .i64 d]] W fun e w'=>e = .returned (.int .i64 (a - c))∧∃ q os',w'=grow (W.drewN q) os';simp only at h1 h2 h3 h4;go_enter Tryz.func92,Tryz.ntmps92
 go_wp2
 go_ret
 exact ⟨rfl,0,_,by rw [alloc_eq_grow,alloc_eq_grow,grow_grow];rfl⟩
theorem cmpLays (blk off size:Nat) (w:World):CmpLays Tryz.prog 92 #[] encB 2 cfB blk off size w:=fun _ _ _ _ x y=>cmp_any x y _
def SortPost (w:World) (A:Option Addr) (S:List Stp2) (e:Ending) (w':World):Prop:=
 e = .returned (.tuple #[])∧∃ S',S'.Perm S∧S'.Pairwise (fun a b=>a.1≤b.1)∧StopsAt w' w'.heap.size A S'∧Only (fun i=>∃ a,A=some a∧i=a.block) w w'
theorem sort_any (w:World) (base cap:Nat) (A:Option Addr) (S:List Stp2) (hS:∀ s∈S,-4000000≤s.1∧s.1≤4000000) (hl:S.length≤100) (hown:w.ownsRow base 90 2 (.slice A S.length cap) S.length (stopCells S)) :
 Calls Tryz.prog 91 #[.slice A S.length cap,.func (.func 92) #[] #[]] w (SortPost w A S):=by
 rcases Nat.eq_zero_or_pos S.length with h0 | h0
 · have:S=[]:=List.eq_nil_of_length_eq_zero h0
   subst this;exact (AnyF.slices_SortFunc_none sortL A cap _ w).mono fun e w' ⟨he,hw⟩=>⟨he,[],List.Perm.refl _,List.Pairwise.nil,StopsAt.nil _ _ _,hw▸Only.refl _ _⟩
 · obtain ⟨g,cap',hv,hbg,hg⟩:=hown.form h0
   injection hv with hA _ hcap;subst hA hcap;obtain ⟨T,hT⟩:∃ T:List BStop,T.map Subtype.val=S:=⟨S.pmap (fun s h=>⟨s,h⟩) hS,by rw [List.map_pmap];simp⟩;have hTl:T.length=S.length:=by rw [← hT,List.length_map]
   have eg:∀ args w,(callFunc 92 args).run Tryz.prog w = .ok (.enter 92 args) w:=enters_of Tryz.func92 (by kernel_rfl) rfl
   have hH:HoldsK encB 2 w g 0 T.toArray:=fun j hj=>by
    have hj':j<T.length*2:=by simpa using hj
    refine ⟨?_,hown.frozenAt (0+j)⟩;have hx:(flatK encB 2 T.toArray)[j]! = (encB T.toArray[j / 2]!)[j % 2]! := get_flatK encB 2 _ j (by simpa using hj');show _=some (id (flatK encB 2 T.toArray)[j]!);rw [hx,Nat.zero_add,hown.cellAt j (by omega)];obtain ⟨s,hs⟩:∃ s,T[j / 2]? = some s:=⟨_,List.getElem?_eq_getElem (by omega)⟩;have hs2:S[j / 2]? = some s.1:=by rw [← hT,List.getElem?_map,hs];rfl
    have hs3:T.toArray[j / 2]! = s:=by simp [hs]
    rw [hs3];obtain ⟨k1,k2⟩:=stopCells_at S _ _ hs2;rcases Nat.mod_two_eq_zero_or_one j with hm | hm
    · rw [hm]
      have e:j=j / 2*2:=by omega
      rw [← e] at k1;rw [k1];rfl
    · rw [hm]
      have e:j=j / 2*2+1:=by omega
      rw [← e] at k2;rw [k2];rfl
   have hsz:T.toArray.size=S.length:=by simp [hTl]
   have hcon:=AnyQ.slices_SortFunc sortL 2 Tryz.isAgg90 Tryz.sizeOf90 encB (fun _=>rfl) (fun x v hv=>by simp [encB,encStop] at hv;rcases hv with rfl | rfl <;> rfl) cfB swoB 92 #[] g 0 cap T.toArray w eg (cmpLays g 0 _ w) hH hg (by omega);rw [hsz] at hcon;refine Calls.mono hcon ?_;rintro e w' ⟨rfl,d',n,os,hp,hs,rfl⟩;obtain ⟨hp1,-,hp3⟩:=hp;rw [hsz] at hp1
   have hperm:d'.toList.Perm T:=by
    have e1:d'.extract 0 S.length=d':=by rw [← hp1];simp
    have e2:T.toArray.extract 0 S.length=T.toArray:=by rw [← hsz];simp
    rw [e1,e2] at hp3;simpa using hp3
   have hH':=holdsK_sortWorldK_c (encB) 2 (w:=w) (blk:=g) (off:=0) T.toArray d' n os hH hg (by omega);refine ⟨rfl,d'.toList.map Subtype.val,?_,?_,?_,?_⟩
   · rw [← hT];exact hperm.map _
   · rw [List.pairwise_map,List.pairwise_iff_getElem]
     intro i j hi hj hij;have hi':i<d'.size:=by simpa using hi
     have hj':j<d'.size:=by simpa using hj
     have h1:=hs i j (Nat.zero_le _) hij (by omega);rw [ltB_,getElem!_pos d' i hi',getElem!_pos d' j hj'] at h1;have h2:¬ (d'[j].1.1<d'[i].1.1):=by simpa using h1
     simp only [Array.getElem_toList];omega
   · intro i s hi
     rw [List.getElem?_map] at hi
     obtain ⟨x,hx,rfl⟩:∃ x,d'.toList[i]? = some x∧x.1=s:=by
      cases hc:d'.toList[i]? with
      | none=>rw [hc] at hi;cases hi
      | some x=>rw [hc] at hi;injection hi with hi;exact ⟨x,rfl,hi⟩
     have hlt:=(List.getElem?_eq_some_iff.1 hx).1;have hlt':i<d'.size:=by simpa using hlt
     have hx2:d'[i]! = x:=by
      rw [getElem!_pos d' i hlt'];have:=(List.getElem?_eq_some_iff.1 hx).2;simpa using this
     have c0:=(hH' (i*2) (by simp;omega)).1;have c1:=(hH' (i*2+1) (by simp;omega)).1;have f0:(flatK encB 2 d')[i*2]! = (encB d'[i*2 / 2]!)[i*2 % 2]! := get_flatK encB 2 _ _ (by omega);have f1:(flatK encB 2 d')[i*2+1]! = (encB d'[(i*2+1) / 2]!)[(i*2+1) % 2]! := get_flatK encB 2 _ _ (by omega);have g0:i*2 / 2=i:=by omega
     have g1:(i*2+1) / 2=i:=by omega
     have g2:i*2 % 2=0:=by omega
     have g3:(i*2+1) % 2=1:=by omega
     rw [g0,g2,hx2] at f0;rw [g1,g3,hx2] at f1;refine ⟨g,0,rfl,lt_sortWorldK encB 2 w g 0 n d' os hg,?_,?_⟩
     · rw [c0]
       show some (id (flatK encB 2 d')[i*2]!)=_;rw [f0];rfl
     · rw [← Nat.add_assoc] at c1
       rw [c1];show some (id (flatK encB 2 d')[i*2+1]!)=_;rw [f1];rfl
   · refine ⟨rfl,rfl,rfl,size_sortWorldK_c encB 2 w g 0 n d' os,fun i hi hn=>?_⟩
     have hne:i≠g:=fun h=>hn ⟨_,rfl,h⟩;show ((putRowK encB 2 (Sort.ahead w n) g 0 d').heap++os)[i]? = _;have hsz2:(putRowK encB 2 (Sort.ahead w n) g 0 d').heap.size=w.heap.size:=size_putRowK encB 2 (Sort.ahead w n) g 0 d';rw [Array.getElem?_append_left (by rw [hsz2];exact hi)];show (w.heap.modify g _)[i]? = _;rw [Array.getElem?_modify,if_neg (fun h=>hne h.symm)]
open Go.RowKit Go.Shelf
theorem joinStep_len (J:List Stp2) (s:Stp2):(joinStep J s).length≤J.length+1:=by
 unfold joinStep
 split
 · simp
 · split
   · simp
   · simp
def JoinPost (w:World) (base gc:Nat) (f:Int) (J:List Stp2) (s:Stp2) (A:Option Addr) (e:Ending) (w':World):Prop:=
 e = .returned (.tuple #[])∧∃ A' c',Blk w' gc 140 #[.int .i64 f,.slice A' (joinStep J s).length c'] ∧
  w'.ownsRow base 90 2 (.slice A' (joinStep J s).length c') (joinStep J s).length (stopCells (joinStep J s))∧Only (fun i=>i=gc∨∃ a,A=some a∧i=a.block) w w'∧(∀ a,A'=some a→base≤a.block)
theorem join_case (J:List Stp2) (s:Stp2):(J.length≤0∧joinStep J s=J++[s])∨∃ m t,J.length=m+1∧J[m]? = some t∧((t.2<s.1∧joinStep J s=J++[s])∨(s.1≤t.2∧joinStep J s=J.set m (t.1,max t.2 s.2))):=by
 rcases List.eq_nil_or_concat J with rfl | ⟨K,t,rfl⟩
 · exact .inl ⟨by simp,rfl⟩
 · rw [List.concat_eq_append]
   refine .inr ⟨K.length,t,by simp,by simp,?_⟩;unfold joinStep;rw [List.getLast?_concat];simp only;by_cases hc:s.1≤t.2
   · rw [if_pos hc,List.dropLast_concat]
     exact .inr ⟨hc,by rw [List.set_append_right _ _ (Nat.le_refl _),Nat.sub_self];rfl⟩
   · rw [if_neg hc]
     exact .inl ⟨by omega,rfl⟩
theorem stopCells_set:∀ {J:List Stp2} {m:Nat} {t:Stp2} {z:Int},J[m]? = some t→(stopCells J).set (m*2+1) (.int .i64 z)=stopCells (J.set m (t.1,z))
 | [],m,t,z,h=>by simp at h
 | s::J,0,t,z,h=>by simp at h;subst h;rfl
 | s::J,m+1,t,z,h=>by
  have ih:=stopCells_set (J:=J) (m:=m) (t:=t) (z:=z) (by simpa using h);have e1:(m+1)*2+1=m*2+1+1+1:=by omega
  show (Value.int .i64 s.1::Value.int .i64 s.2::stopCells J).set ((m+1)*2+1) _=Value.int .i64 s.1::Value.int .i64 s.2::stopCells (J.set m (t.1,z));rw [e1,List.set_cons_succ,List.set_cons_succ,ih]
theorem join_any (w:World) (base g3 gc c:Nat) (f:Int) (J:List Stp2) (s:Stp2) (A:Option Addr) (h3:Blk w g3 93 #[.pointer (some ⟨gc,0,none⟩)]) (hc:Blk w gc 140 #[.int .i64 f,.slice A J.length c])
 (own:w.ownsRow base 90 2 (.slice A J.length c) J.length (stopCells J)) (hl:J.length≤100) (hbase:base≤w.heap.size) :
 Calls Tryz.prog 93 #[.agg (encStop s).toArray,.pointer (some ⟨g3,0,none⟩)] w (JoinPost w base gc f J s A):=by
 obtain ⟨i0,hi0,hz0,hz1,hz2⟩:=info_parts Tryz.infoStop;obtain ⟨p,q⟩:=s;show Calls Tryz.prog 93 #[.agg #[.int .i64 p,.int .i64 q],.pointer (some ⟨g3,0,none⟩)] w _;have hcase:=join_case J (p,q);have hb0:=(Only.refl (fun _=>False) w).alloc (.cells #[.int .i64 p,.int .i64 q] 90);have ks:=Blk.new w 90 #[.int .i64 p,.int .i64 q];have k3:=h3.alloc (.cells #[.int .i64 p,.int .i64 q] 90);have kc:=hc.alloc (.cells #[.int .i64 p,.int .i64 q] 90);have own1:=own.alloc (.cells #[.int .i64 p,.int .i64 q] 90)
 have hgA:∀ a,A=some a→base≤a.block∧a.block<w.heap.size:=fun a ha=>by
  subst ha;exact own.lt a.block rfl
 have HGA:=hd_ hgA;clear hgA h3 hc own;rcases hcase with ⟨hlen,hj⟩ | ⟨m,t,hm,ht,hj⟩
 · have HJ:=hd_ hj
   clear hj;obtain ⟨s0,s1,s2⟩:=ks.all;obtain ⟨a0,a1,a2⟩:=k3.all;obtain ⟨c0,c1,c2⟩:=kc.all;have d1:decide ((1:Int)≤(J.length:Int))=false:=decide_eq_false (by omega);go_enter Tryz.func93,Tryz.ntmps93
   go_wp2_with fail
   go_quiet (fail)
   go_wp2_with fail
   have hbW:=hb0.drewN nq;have kcW:=kc.drewN nq;have ksW:=ks.drewN nq;have k3W:=k3.drewN nq;have ownW:((w.alloc (.cells #[.int .i64 p,.int .i64 q] 90)).drewN nq).ownsRow base 90 2 (.slice A J.length c) J.length (stopCells J):=own1;have hsW:w.heap.size<((w.alloc (.cells #[.int .i64 p,.int .i64 q] 90)).drewN nq).heap.size:=ksW.lt;clear hb0 kc ks k3 own1 s0 s1 s2 a0 a1 a2 c0 c1 c2;generalize (w.alloc (.cells #[.int .i64 p,.int .i64 q] 90)).drewN nq=W at *;generalize hge:w.heap.size=ge at *;have HGE:=hd_ hge;clear hge;refine wp_region_bush (fun V=>Blk V g3 93 #[.pointer (some ⟨gc,0,none⟩)]∧Blk V gc 140 #[.int .i64 f,.slice A J.length c]∧Blk V ge 90 #[.int .i64 p,.int .i64 q]) [0,1,2,3,4,5] 4 [] [10] (by kernel_rfl) (by kernel_rfl) (fun _ d _ _ _ h=>by cases d <;> exact h) ⟨k3W,kcW,ksW⟩ ?_;simp only [pick,List.drop_succ_cons,List.drop_zero,List.head?_cons,Option.toList_some,List.cons_append,List.nil_append,List.append_nil]
   repeat (refine wpHeld_step ?_ rfl ?_ ?_;rotate_left;· (intro V hV;obtain ⟨v0,v1,v2⟩:=hV.1.all;obtain ⟨x0,x1,x2⟩:=hV.2.1.all;obtain ⟨y0,y1,y2⟩:=hV.2.2.all;go_simp;with_reducible rfl))
   refine wpHeld_nil ?_;have hd:=hbW.drew;have k3D:=k3W.drew;have kcD:=kcW.drew;have ksD:=ksW.drew;have ownD:W.drew.ownsRow base 90 2 (.slice A J.length c) J.length (stopCells J):=ownW;have hsD:ge<W.drew.heap.size:=hsW;clear hbW k3W kcW ksW ownW hsW;generalize W.drew=V at *;refine wpBush_one 6 (by kernel_rfl) ?_;simp only [pick,List.drop_succ_cons,List.drop_zero,List.head?_cons,Option.toList_some,List.append_nil];go_wp2_with fail
   have kn:=Blk.new V 90 #[.int .i64 p,.int .i64 q];replace hd:=hd.alloc (.cells #[.int .i64 p,.int .i64 q] 90);replace k3D:=k3D.alloc (.cells #[.int .i64 p,.int .i64 q] 90);replace kcD:=kcD.alloc (.cells #[.int .i64 p,.int .i64 q] 90);replace ksD:=ksD.alloc (.cells #[.int .i64 p,.int .i64 q] 90);replace ownD:=ownD.alloc (.cells #[.int .i64 p,.int .i64 q] 90);refine ⟨⟨k3D,kcD,ksD⟩,?_⟩;generalize V.heap.size=gn at *;generalize V.alloc (.cells #[.int .i64 p,.int .i64 q] 90)=X at *;clear hsD;refine wpBush_one 7 (by kernel_rfl) ?_;simp only [pick,List.drop_succ_cons,List.drop_zero,List.head?_cons,Option.toList_some,List.append_nil];have hsx:=kn.lt;have hszx:=hd.size;rw [HGE.out] at hszx;go_wp2_with (at_builtin;refine wpList_append_lies _ rfl _ _ 42 rfl base 90 i0 _ 2 16 Tryz.underlying42 hi0 hz0 hz1 hz2 rfl (by omega) (.slice A J.length c) J.length _ rfl ownD ⟨gn,0,none⟩ 1 1 [.int .i64 p,.int .i64 q] rfl rfl (World.news_of_block kn) (stopCells_one [(p,q)]) (by omega) (by unfold maxLen;omega) (by omega) (by omega) X.heap.size rfl ?_;intro gz cz Y own9 gr9 l9 z9)
   have nne:some ge≠(Value.slice A J.length c).ownBlock:=fun he=>by
    cases A with
    | none=>simp [Value.ownBlock] at he
    | some a=>
     have h1:=(HGA.out a rfl).2;have h2:ge=a.block:=by simpa [Value.ownBlock] using he
     omega
   have k3Y:=k3D.grown gr9 (fun he=>own_blk_ne ownD k3D (by decide) he.symm);have kcY:=kcD.grown gr9 (fun he=>own_blk_ne ownD kcD (by decide) he.symm);have ksY:=ksD.grown gr9 nne
   have hY:Only (fun i=>∃ a,A=some a∧i=a.block) w Y:=(hd.mono (fun _ h=>h.elim)).trans (Only.of_grown gr9) (fun i hi=>.inl (by
    cases A with
    | none=>simp [Value.ownBlock] at hi
    | some a=>exact ⟨a,rfl,by simpa [Value.ownBlock] using hi.symm⟩))
   have hbz:base≤gz:=by
    rcases l9 with h | h
    · cases A with
      | none=>simp [Value.ownBlock] at h
      | some a=>
       have h1:=(HGA.out a rfl).1;have h2:a.block=gz:=by simpa [Value.ownBlock] using h
       omega
    · omega
   clear k3D kcD ksD hd gr9 l9 kn hsx hszx ownD;refine ⟨⟨k3Y,kcY,ksY⟩,wpBush_one 8 (by kernel_rfl) ?_⟩;simp only [pick,List.drop_succ_cons,List.drop_zero,List.head?_cons,Option.toList_some,List.append_nil];go_wp2_with fail
   refine ⟨⟨k3Y,kcY,ksY⟩,wpBush_one 9 (by kernel_rfl) ?_⟩;simp only [pick,List.drop_succ_cons,List.drop_zero,List.head?_cons,Option.toList_some,List.append_nil];go_wp2_with fail
   refine ⟨⟨k3Y,kcY,ksY⟩,wpBush_end (by kernel_rfl) (by kernel_rfl) (by kernel_rfl) ?_⟩;simp only [pick,List.drop_succ_cons,List.drop_zero,List.head?_cons,Option.toList_some,List.append_nil];refine wpHeld_nil ?_;obtain ⟨x0,x1,x2⟩:=kcY.all;have hst:=kcY.set_ 1 (.slice (some ⟨gz,0,none⟩) (J.length+1) cz);have hoY:=Only.owns (F:=fun i=>i=gc) ((Only.refl (fun i=>i=gc) Y).setCell (p:=⟨gc,1,none⟩) (.inl rfl) (.slice (some ⟨gz,0,none⟩) (J.length+1) cz)) own9 (fun g hg he=>own_blk_ne own9 kcY (by decide) (he▸hg));have hO:=(hY.mono (G:=fun i=>i=gc∨∃ a,A=some a∧i=a.block) (fun _ h=>.inr h)).setCell (p:=⟨gc,1,none⟩) (.inl (.inl rfl)) (.slice (some ⟨gz,0,none⟩) (J.length+1) cz);clear k3Y ksY hY nne own9;go_wp2
   go_end0
   refine ⟨rfl,some ⟨gz,0,none⟩,cz,?_⟩;have hlj:(joinStep J (p,q)).length=J.length+1:=by rw [HJ.out];simp
   rw [hlj,HJ.out,stopCells_app];exact ⟨hst,hoY,hO,fun a ha=>by injection ha with ha;subst ha;exact hbz⟩
 · have HM:=hd_ hm
   have HT:=hd_ ht;rw [hm] at kc own1 hl;clear hm ht;obtain ⟨gA,cA,hv,hbA,hgA⟩:=own1.form (Nat.succ_pos m);injection hv with hv _ hcA;subst hv hcA;obtain ⟨ct0,ct1⟩:=stopCells_at J m t HT.out;have t0:=own1.cellAt (m*2) (by omega);have t1:=own1.cellAt (m*2+1) (by omega);rw [ct0] at t0;rw [ct1] at t1;clear ct0 ct1;obtain ⟨s0,s1,s2⟩:=ks.all;obtain ⟨a0,a1,a2⟩:=k3.all;obtain ⟨c0,c1,c2⟩:=kc.all;have d1:decide ((1:Int)≤((m+1:Nat):Int))=true:=decide_eq_true (by omega);rcases hj with ⟨hlt,hj⟩ | ⟨hle,hj⟩
   · have HJ:=hd_ hj
     clear hj;have dle:decide (p≤t.2)=false:=decide_eq_false (by simp only at hlt;omega);go_enter Tryz.func93,Tryz.ntmps93
     go_wp2_with fail
     go_quiet (fail)
     go_wp2_with fail
     have hbW:=hb0.drewN nq;have kcW:=kc.drewN nq;have ksW:=ks.drewN nq;have k3W:=k3.drewN nq;have ownW:((w.alloc (.cells #[.int .i64 p,.int .i64 q] 90)).drewN nq).ownsRow base 90 2 (.slice (some ⟨gA,0,none⟩) (m+1) c) (m+1) (stopCells J):=own1;have hsW:w.heap.size<((w.alloc (.cells #[.int .i64 p,.int .i64 q] 90)).drewN nq).heap.size:=ksW.lt;clear hb0 kc ks k3 own1 s0 s1 s2 a0 a1 a2 c0 c1 c2;generalize (w.alloc (.cells #[.int .i64 p,.int .i64 q] 90)).drewN nq=W at *;generalize hge:w.heap.size=ge at *;have HGE:=hd_ hge;clear hge;refine wp_region_bush (fun V=>Blk V g3 93 #[.pointer (some ⟨gc,0,none⟩)]∧Blk V gc 140 #[.int .i64 f,.slice (some ⟨gA,0,none⟩) (m+1) c]∧Blk V ge 90 #[.int .i64 p,.int .i64 q]) [0,1,2,3,4,5] 4 [] [10] (by kernel_rfl) (by kernel_rfl) (fun _ d _ _ _ h=>by cases d <;> exact h) ⟨k3W,kcW,ksW⟩ ?_;simp only [pick,List.drop_succ_cons,List.drop_zero,List.head?_cons,Option.toList_some,List.cons_append,List.nil_append,List.append_nil]
     repeat (refine wpHeld_step ?_ rfl ?_ ?_;rotate_left;· (intro V hV;obtain ⟨v0,v1,v2⟩:=hV.1.all;obtain ⟨x0,x1,x2⟩:=hV.2.1.all;obtain ⟨y0,y1,y2⟩:=hV.2.2.all;go_simp;with_reducible rfl))
     refine wpHeld_nil ?_;have hd:=hbW.drew;have k3D:=k3W.drew;have kcD:=kcW.drew;have ksD:=ksW.drew;have ownD:W.drew.ownsRow base 90 2 (.slice (some ⟨gA,0,none⟩) (m+1) c) (m+1) (stopCells J):=ownW;have hsD:ge<W.drew.heap.size:=hsW;clear hbW k3W kcW ksW ownW hsW;generalize W.drew=V at *;refine wpBush_one 6 (by kernel_rfl) ?_;simp only [pick,List.drop_succ_cons,List.drop_zero,List.head?_cons,Option.toList_some,List.append_nil];go_wp2_with fail
     have kn:=Blk.new V 90 #[.int .i64 p,.int .i64 q];replace hd:=hd.alloc (.cells #[.int .i64 p,.int .i64 q] 90);replace k3D:=k3D.alloc (.cells #[.int .i64 p,.int .i64 q] 90);replace kcD:=kcD.alloc (.cells #[.int .i64 p,.int .i64 q] 90);replace ksD:=ksD.alloc (.cells #[.int .i64 p,.int .i64 q] 90);replace ownD:=ownD.alloc (.cells #[.int .i64 p,.int .i64 q] 90);refine ⟨⟨k3D,kcD,ksD⟩,?_⟩;generalize V.heap.size=gn at *;generalize V.alloc (.cells #[.int .i64 p,.int .i64 q] 90)=X at *;clear hsD;refine wpBush_one 7 (by kernel_rfl) ?_;simp only [pick,List.drop_succ_cons,List.drop_zero,List.head?_cons,Option.toList_some,List.append_nil];have hsx:=kn.lt;have hszx:=hd.size;rw [HGE.out] at hszx;go_wp2_with (at_builtin;refine wpList_append_lies _ rfl _ _ 42 rfl base 90 i0 _ 2 16 Tryz.underlying42 hi0 hz0 hz1 hz2 rfl (by omega) (.slice (some ⟨gA,0,none⟩) (m+1) c) (m+1) _ rfl ownD ⟨gn,0,none⟩ 1 1 [.int .i64 p,.int .i64 q] rfl rfl (World.news_of_block kn) (stopCells_one [(p,q)]) (by omega) (by unfold maxLen;omega) (by omega) (by omega) X.heap.size rfl ?_;intro gz cz Y own9 gr9 l9 z9)
     have nne:some ge≠(Value.slice (some ⟨gA,0,none⟩) (m+1) c).ownBlock:=fun he=>by
      have h1:=(HGA.out _ rfl).2;have h2:ge=gA:=by simpa [Value.ownBlock] using he
      simp only at h1;omega
     have k3Y:=k3D.grown gr9 (fun he=>own_blk_ne ownD k3D (by decide) he.symm);have kcY:=kcD.grown gr9 (fun he=>own_blk_ne ownD kcD (by decide) he.symm);have ksY:=ksD.grown gr9 nne;have hY:Only (fun i=>∃ a,some (⟨gA,0,none⟩:Addr)=some a∧i=a.block) w Y:=(hd.mono (fun _ h=>h.elim)).trans (Only.of_grown gr9) (fun i hi=>.inl ⟨_,rfl,by simpa [Value.ownBlock] using hi.symm⟩)
     have hbz:base≤gz:=by
      rcases l9 with h | h
      · have h2:gA=gz:=by simpa [Value.ownBlock] using h
        omega
      · omega
     clear k3D kcD ksD hd gr9 l9 kn hsx hszx ownD;refine ⟨⟨k3Y,kcY,ksY⟩,wpBush_one 8 (by kernel_rfl) ?_⟩;simp only [pick,List.drop_succ_cons,List.drop_zero,List.head?_cons,Option.toList_some,List.append_nil];go_wp2_with fail
     refine ⟨⟨k3Y,kcY,ksY⟩,wpBush_one 9 (by kernel_rfl) ?_⟩;simp only [pick,List.drop_succ_cons,List.drop_zero,List.head?_cons,Option.toList_some,List.append_nil];go_wp2_with fail
     refine ⟨⟨k3Y,kcY,ksY⟩,wpBush_end (by kernel_rfl) (by kernel_rfl) (by kernel_rfl) ?_⟩;simp only [pick,List.drop_succ_cons,List.drop_zero,List.head?_cons,Option.toList_some,List.append_nil];refine wpHeld_nil ?_;obtain ⟨x0,x1,x2⟩:=kcY.all;have hst:=kcY.set_ 1 (.slice (some ⟨gz,0,none⟩) ((m+1)+1) cz);have hoY:=Only.owns (F:=fun i=>i=gc) ((Only.refl (fun i=>i=gc) Y).setCell (p:=⟨gc,1,none⟩) (.inl rfl) (.slice (some ⟨gz,0,none⟩) ((m+1)+1) cz)) own9 (fun g hg he=>own_blk_ne own9 kcY (by decide) (he▸hg));have hO:=(hY.mono (G:=fun i=>i=gc∨∃ a,some (⟨gA,0,none⟩:Addr)=some a∧i=a.block) (fun _ h=>.inr h)).setCell (p:=⟨gc,1,none⟩) (.inl (.inl rfl)) (.slice (some ⟨gz,0,none⟩) ((m+1)+1) cz);clear k3Y ksY hY nne own9;go_wp2
     go_end0
     refine ⟨rfl,some ⟨gz,0,none⟩,cz,?_⟩;have hlj:(joinStep J (p,q)).length=(m+1)+1:=by rw [HJ.out];simp [HM.out]
     rw [hlj,HJ.out,stopCells_app];exact ⟨hst,hoY,hO,fun a ha=>by injection ha with ha;subst ha;exact hbz⟩
   · have HJ:=hd_ hj
     clear hj;have dle:decide (p≤t.2)=true:=decide_eq_true hle;obtain ⟨z,hz⟩:∃ z,z=max t.2 q:=⟨_,rfl⟩;have rm:=fun ts ty W=>run_max2 (P:=Tryz.prog) t.2 q z hz ts ty W;have HZ:=hd_ hz;clear hz;clear hle;go_enter Tryz.func93,Tryz.ntmps93
     go_wp2_with fail
     go_quiet (fail)
     go_wp2_with fail
     have hbW:=hb0.drewN nq;have kcW:=kc.drewN nq;have ksW:=ks.drewN nq;have k3W:=k3.drewN nq;have ownW:((w.alloc (.cells #[.int .i64 p,.int .i64 q] 90)).drewN nq).ownsRow base 90 2 (.slice (some ⟨gA,0,none⟩) (m+1) c) (m+1) (stopCells J):=own1;clear hb0 kc ks k3 own1 s0 s1 s2 a0 a1 a2 c0 c1 c2;generalize (w.alloc (.cells #[.int .i64 p,.int .i64 q] 90)).drewN nq=W at *;generalize hge:w.heap.size=ge at *;have HGE:=hd_ hge;clear hge;obtain ⟨s0,s1,s2⟩:=ksW.all;obtain ⟨a0,a1,a2⟩:=k3W.all;obtain ⟨c0,c1,c2⟩:=kcW.all;have fz:=ownW.frozenAt (m*2+1);have t1W:=ownW.cellAt (m*2+1) (by omega);rw [(stopCells_at J m t HT.out).2] at t1W;clear t0 t1;have ib0:(0:Int)≤(m:Int):=by omega
     have ib1:(m:Int)<(m:Int)+1:=by omega
     have ib2:(m:Int)<((m+1:Nat):Int):=by omega
     refine wp_region_tailB 16 (by kernel_rfl) (by kernel_rfl) ?_;simp only [List.take_succ_cons,List.take_zero,List.drop_succ_cons,List.drop_zero]
     repeat still_step
     refine wpStill_nil ?_;go_wp2
     have hst:=(ownW.stored (m*2+1) (.int .i64 z)).1
     have hO:Only (fun i=>i=gc∨∃ a,some (⟨gA,0,none⟩:Addr)=some a∧i=a.block) w (W.setCell ⟨gA,m*2+1,none⟩ (.int .i64 z)):=
      (hbW.mono (G:=fun i=>i=gc∨∃ a,some (⟨gA,0,none⟩:Addr)=some a∧i=a.block) (fun _ h=>h.elim)).setCell (p:=⟨gA,m*2+1,none⟩) (.inl (.inr ⟨_,rfl,rfl⟩)) _
     have hk:=kcW.far (p:=⟨gA,m*2+1,none⟩) (fun he=>own_blk_ne ownW kcW (by decide) (by rw [he];rfl)) (.int .i64 z);have hlj:(joinStep J (p,q)).length=m+1:=by rw [HJ.out];simp [HM.out]
     rw [stopCells_set HT.out] at hst;refine bodyPost_ret (v:=.tuple #[]) (by simp [results,Tryz.results93,go_sem]) rfl ⟨rfl,some ⟨gA,0,none⟩,c,?_⟩;have hje:joinStep J (p,q)=J.set m (t.1,z):=by rw [HJ.out,HZ.out]
     rw [hlj,hje];exact ⟨hk.drew,hst,hO.drew,fun a ha=>by injection ha with ha;subst ha;exact hbA⟩
def trS (f:Int) (S:List Stp2):List Stp2:=(S.map fun s=>(max s.1 (f+1),s.2)).filter fun s=>decide (s.1<s.2)
def pzB (f:Int) (S:List Stp2) (x:Int):Bool:=decide (f<x) && anyS S x
theorem pzB_iff {f:Int} {S:List Stp2} {x:Int} : pzB f S x=true↔f<x∧∃ s∈S,s.1≤x∧x<s.2:=by
 unfold pzB;rw [Bool.and_eq_true,decide_eq_true_eq,anyS_iff]
theorem trS_mem {f:Int} {S:List Stp2} {t:Stp2} : t∈trS f S↔∃ s∈S,t=(max s.1 (f+1),s.2)∧max s.1 (f+1)<s.2:=by
 unfold trS;rw [List.mem_filter,List.mem_map];constructor
 · rintro ⟨⟨s,hs,rfl⟩,h⟩
   exact ⟨s,hs,rfl,by simpa using h⟩
 · rintro ⟨s,hs,rfl,h⟩
   exact ⟨⟨s,hs,rfl⟩,by simpa using h⟩
theorem trS_any (f:Int) (S:List Stp2):anyS (trS f S)=pzB f S:=funext fun x=>by
 have:anyS (trS f S) x=true↔pzB f S x=true:=by
  rw [anyS_iff,pzB_iff];constructor
  · rintro ⟨t,ht,h1,h2⟩
    obtain ⟨s,hs,rfl,h3⟩:=trS_mem.1 ht;simp only at h1 h2;exact ⟨by omega,s,hs,by omega,h2⟩
  · rintro ⟨h0,s,hs,h1,h2⟩
    exact ⟨_,trS_mem.2 ⟨s,hs,rfl,by omega⟩,by show max s.1 (f+1)≤x;omega,h2⟩
 cases h1:anyS (trS f S) x <;> cases h2:pzB f S x <;> simp_all
theorem trS_len (f:Int) (S:List Stp2):(trS f S).length≤S.length:=by
 unfold trS;have:=List.length_filter_le (fun s:Stp2=>decide (s.1<s.2)) (S.map fun s=>(max s.1 (f+1),s.2));rwa [List.length_map] at this
theorem trS_at {f:Int} {S:List Stp2} {k:Nat} {s:Stp2} (h:S[k]? = some s):trS f (S.take (k+1))=trS f (S.take k)++(if max s.1 (f+1)<s.2 then [(max s.1 (f+1),s.2)] else []):=by
 obtain ⟨hk,hs⟩:=List.getElem?_eq_some_iff.1 h;unfold trS;rw [List.take_succ_eq_append_getElem hk,hs,List.map_append,List.filter_append]
 congr 1
 simp only [List.map_cons,List.map_nil,List.filter_cons,List.filter_nil,decide_eq_true_eq]
theorem anyS_perm {J K:List Stp2} (h:J.Perm K):anyS J=anyS K:=anyS_congr fun x=>by
 rw [anyS_iff,anyS_iff];exact ⟨fun ⟨s,h1,h2⟩=>⟨s,h.mem_iff.1 h1,h2⟩,fun ⟨s,h1,h2⟩=>⟨s,h.mem_iff.2 h1,h2⟩⟩
theorem joinS_len (l:List Stp2):(joinS l).length≤l.length:=by
 have:∀ (l J:List Stp2),(l.foldl joinStep J).length≤J.length+l.length:=by
  intro l
  induction l with
  | nil=>intro J;simp
  | cons s l ih=>
   intro J;have h1:=ih (joinStep J s);have h2:=joinStep_len J s;show (l.foldl joinStep (joinStep J s)).length≤_;rw [List.length_cons];omega
 have h:=this l [];rw [List.length_nil,Nat.zero_add] at h;exact h
theorem sep_mem:∀ {J:List Stp2} {lo:Int} {s:Stp2},Sep lo J→s∈J→lo<s.1∧s.1<s.2
 | [],_,_,_,h=>by cases h
 | t::J,lo,s,hs,h=>by
  obtain ⟨h1,h2,h3⟩:=hs;rcases List.mem_cons.1 h with rfl | h
  · exact ⟨h1,h2⟩
  · have:=sep_mem h3 h
    exact ⟨by omega,this.2⟩
def ClockAt (w:World) (g:Nat) (f:Int) (J:List Stp2):Prop:=∃ A c,Blk w g 140 #[.int .i64 f,.slice A J.length c]∧StopsAt w w.heap.size A J
def GoodJ (f:Int) (S J:List Stp2):Prop:=Sep f J∧anyS J=pzB f S∧J.length≤60∧∀ s∈J,f<s.1∧s.1<s.2∧s.2≤1000000
def StartPost (w:World) (f:Int) (S:List Stp2) (e:Ending) (w':World):Prop:=
 ∃ g J,e = .returned (.pointer (some ⟨g,0,none⟩))∧ClockAt w' g f J∧GoodJ f S J∧Below w.heap.size w w'
theorem good_of {f:Int} {S T:List Stp2} (hS:∀ s∈S,psB s=true) (hl:S.length≤60) (hp:T.Perm (trS f S)) (hs:T.Pairwise (fun a b=>a.1≤b.1)):GoodJ f S (joinS T):=by
 have hT:∀ s∈T,f<s.1∧s.1<s.2:=fun s h=>by
  obtain ⟨t,ht,rfl,h2⟩:=trS_mem.1 (hp.mem_iff.1 h);exact ⟨by show f<max t.1 (f+1);omega,h2⟩
 obtain ⟨h1,h2⟩:=join_good hT hs;have h3:anyS (joinS T)=pzB f S:=by rw [h2,anyS_perm hp,trS_any]
 refine ⟨h1,h3,?_,fun s hm=>?_⟩
 · have a:=joinS_len T
   have b:=trS_len f S;have c:=hp.length_eq;omega
 · obtain ⟨a,b⟩:=sep_mem h1 hm
   refine ⟨a,b,?_⟩;have:anyS (joinS T) (s.2 - 1)=true:=anyS_iff.2 ⟨s,hm,by omega,by omega⟩;rw [h3] at this;obtain ⟨_,t,ht,_,h4⟩:=pzB_iff.1 this;have:=psB_iff.1 (hS t ht);omega
theorem StopsAt.only {w w':World} {B:Nat} {A:Option Addr} {S:List Stp2} {F:Foot} (h:StopsAt w B A S) (hO:Only F w w') (hB:B≤w.heap.size) (hn:∀ a,A=some a→¬ F a.block):StopsAt w' B A S:=fun i s hi=>by
 obtain ⟨g,off,hA,hg,h1,h2⟩:=h i s hi;have hb:=hO.block g (by omega) (hn _ hA);have hc:∀ o,w'.cell? ⟨g,o,none⟩=w.cell? ⟨g,o,none⟩:=fun o=>by simp only [World.cell?,hb]
 exact ⟨g,off,hA,hg,(hc _).trans h1,(hc _).trans h2⟩
theorem joinS_at {T:List Stp2} {k:Nat} {s:Stp2} (h:T[k]? = some s):joinS (T.take (k+1))=joinStep (joinS (T.take k)) s:=by
 obtain ⟨hk,hs⟩:=List.getElem?_eq_some_iff.1 h;unfold joinS;rw [List.take_succ_eq_append_getElem hk,hs,List.foldl_append];rfl
theorem start_any (w:World) (L:Lm) (B:Nat) (A:Option Addr) (c:Nat) (h:StopsAt w B A L.S) (hB:B≤w.heap.size) (hp:prB L=true) :
 Calls Tryz.prog 42 #[.agg (L.cells A c)] w (StartPost w L.f L.S):=by
 obtain ⟨i0,hi0,hz0,hz1,hz2⟩:=info_parts Tryz.infoStop;obtain ⟨-,hf,-,hl,hS⟩:=prB_iff.1 hp;clear hp;obtain ⟨id,n,u,f,S⟩:=L;show Calls Tryz.prog 42 #[.agg #[.string id,.int .i64 n,.int .i64 u,.int .i64 f,.slice A S.length c]] w (StartPost w f S);obtain ⟨f0,f1⟩:=(isB_iff f).1 hf;simp only at hl hS h;clear hf;have HH:=hd_ h;have HS:=hd_ hS;clear h hS;go_enter Tryz.func42,Tryz.ntmps42
 go_wp2_with fail
 have k0:=((Blk.new w 44 #[.string id,.int .i64 n,.int .i64 u,.int .i64 f,.slice A S.length c]).alloc (.cells #[.int .i64 f,.slice none 0 0] 140)).alloc (.cells #[.pointer (some ⟨w.heap.size+1,0,none⟩)] 93);have kc:=(Blk.new1 w (.cells #[.string id,.int .i64 n,.int .i64 u,.int .i64 f,.slice A S.length c] 44) 140 #[.int .i64 f,.slice none 0 0]).alloc (.cells #[.pointer (some ⟨w.heap.size+1,0,none⟩)] 93);have k3:=Blk.new2 w (.cells #[.string id,.int .i64 n,.int .i64 u,.int .i64 f,.slice A S.length c] 44) (.cells #[.int .i64 f,.slice none 0 0] 140) 93 #[.pointer (some ⟨w.heap.size+1,0,none⟩)];have hb:=(((Below.refl w.heap.size w).alloc (Nat.le_refl _) (.cells #[.string id,.int .i64 n,.int .i64 u,.int .i64 f,.slice A S.length c] 44)).alloc (by simp) (.cells #[.int .i64 f,.slice none 0 0] 140)).alloc (by simp;omega) (.cells #[.pointer (some ⟨w.heap.size+1,0,none⟩)] 93);generalize ((w.alloc (.cells #[.string id,.int .i64 n,.int .i64 u,.int .i64 f,.slice A S.length c] 44)).alloc (.cells #[.int .i64 f,.slice none 0 0] 140)).alloc (.cells #[.pointer (some ⟨w.heap.size+1,0,none⟩)] 93)=w1 at *;generalize hg0:w.heap.size=g0 at *;have hgc:g0≤g0+1:=by omega
 have hg3:g0≤g0+1+1:=by omega
 generalize g0+1+1=g3 at *;generalize g0+1=gc at *;have HG:=hd_ hg0;clear hg0;have ow0:w1.ownsRow g0 90 2 (.slice none 0 0) 0 (stopCells (trS f (S.take 0))):=World.ownsRow_nil _ _ _ _
 go_loopw [4,17] (fun v i wr=>∃ (k:Nat) (A4:Option Addr) (c4:Nat),k≤S.length∧i = .int .i64 (k:Int)∧v = .slice A4 (trS f (S.take k)).length c4∧wr.ownsRow g0 90 2 (.slice A4 (trS f (S.take k)).length c4) (trS f (S.take k)).length (stopCells (trS f (S.take k))) ∧
  Blk wr g0 44 #[.string id,.int .i64 n,.int .i64 u,.int .i64 f,.slice A S.length c]∧Blk wr gc 140 #[.int .i64 f,.slice none 0 0]∧Blk wr g3 93 #[.pointer (some ⟨gc,0,none⟩)]∧Below g0 w wr) (fun _ i _=>S.length - (intOf i).toNat)
 case atStart=>exact ⟨0,none,0,Nat.zero_le _,rfl,rfl,ow0,k0,kc,k3,hb⟩
 case round=>
  clear ow0 k0 kc k3 hb;obtain ⟨k,A4,c4,hk,rfl,rfl,own,k0,kc,k3,hb⟩:=hrel;by_cases hlt:k<S.length
  · obtain ⟨s,hs⟩:∃ s,S[k]? = some s:=⟨_,List.getElem?_eq_getElem hlt⟩
    obtain ⟨gb,off,hA,hg,e0,e1⟩:=(HH.out.below (hb.mono hB)) k s hs;subst hA;obtain ⟨p0,p1,p2⟩:=psB_iff.1 (HS.out s (List.mem_of_getElem? hs));have HT:=hd_ (trS_at (f:=f) hs);clear hs;obtain ⟨a,b⟩:=s;simp only at p0 p1 p2 e0 e1;obtain ⟨z,hz⟩:∃ z,z=max a (f+1):=⟨_,rfl⟩;have hzb:0≤z∧z≤1000001:=by omega
    have rm:=fun ts ty W=>run_max2 (P:=Tryz.prog) a (f+1) z hz ts ty W;have hT:=HT.out;simp only [← hz] at hT;have HZ:=hd_ hz;clear hz HT;obtain ⟨q0,q1,q2⟩:=k0.all;by_cases hzb2:z<b
    · rw [if_pos hzb2] at hT
      have HT:=hd_ hT;clear hT;have htl:=trS_len f (S.take k);have htk:(S.take k).length≤k:=List.length_take_le _ _;have ownP:=(own.alloc (.cells #[.int .i64 z,.int .i64 b] 90)).alloc (.cells #[.int .i64 z,.int .i64 b] 90);have kn:=Blk.new1 wr (.cells #[.int .i64 z,.int .i64 b] 90) 90 #[.int .i64 z,.int .i64 b];have hbP:=(hb.alloc (by omega) (.cells #[.int .i64 z,.int .i64 b] 90)).alloc (by simp;omega) (.cells #[.int .i64 z,.int .i64 b] 90);have k0P:=(k0.alloc (.cells #[.int .i64 z,.int .i64 b] 90)).alloc (.cells #[.int .i64 z,.int .i64 b] 90);have kcP:=(kc.alloc (.cells #[.int .i64 z,.int .i64 b] 90)).alloc (.cells #[.int .i64 z,.int .i64 b] 90);have k3P:=(k3.alloc (.cells #[.int .i64 z,.int .i64 b] 90)).alloc (.cells #[.int .i64 z,.int .i64 b] 90);generalize hTL:(trS f (S.take k)).length=tl at *;go_wp2_with (at_builtin;refine wpList_append_lies _ rfl _ _ 42 rfl g0 90 i0 _ 2 16 Tryz.underlying42 hi0 hz0 hz1 hz2 rfl (by omega) (.slice A4 tl c4) tl _ rfl ownP ⟨wr.heap.size+1,0,none⟩ 1 1 [.int .i64 z,.int .i64 b] rfl rfl (World.news_of_block kn) (stopCells_one [(z,b)]) (by omega) (by unfold maxLen;omega) (by omega) (by simp;omega) (wr.heap.size+2) (by simp) ?_;intro gz cz Y own9 gr9 l9 z9)
      have k0Y:=k0P.grown gr9 (fun he=>own_blk_ne ownP k0P (by decide) he.symm);have kcY:=kcP.grown gr9 (fun he=>own_blk_ne ownP kcP (by decide) he.symm);have k3Y:=k3P.grown gr9 (fun he=>own_blk_ne ownP k3P (by decide) he.symm);have hbY:=hbP.grown gr9 (by simp;omega) (fun x hx=>(ownP.lt x hx).1);have hlen:(trS f (S.take (k+1))).length=tl+1:=by rw [HT.out];simp [hTL]
      have hcl:stopCells (trS f (S.take (k+1)))=stopCells (trS f (S.take k))++[.int .i64 z,.int .i64 b]:=by rw [HT.out,stopCells_app];rfl
      clear k0P kcP k3P hbP gr9 ownP kn own k0 kc k3 hb q0 q1 q2 e0 e1;go_roundw
      case rel=>exact ⟨k+1,some ⟨gz,0,none⟩,cz,by omega,by go_num,by rw [hlen],by rw [hlen,hcl];exact own9,k0Y,kcY,k3Y,hbY⟩
      case measure=>simp [intOf];omega
    · rw [if_neg hzb2,List.append_nil] at hT
      have HT:=hd_ hT;clear hT;have hbP:=hb.alloc (by omega) (.cells #[.int .i64 z,.int .i64 b] 90);have k0P:=k0.alloc (.cells #[.int .i64 z,.int .i64 b] 90);have kcP:=kc.alloc (.cells #[.int .i64 z,.int .i64 b] 90);have k3P:=k3.alloc (.cells #[.int .i64 z,.int .i64 b] 90);have ownP:=own.alloc (.cells #[.int .i64 z,.int .i64 b] 90);go_wp2
      go_roundw
      case rel=>exact ⟨k+1,A4,c4,by omega,by go_num,by rw [HT.out],by rw [HT.out];exact ownP,k0P,kcP,k3P,hbP⟩
      case measure=>simp [intOf];omega
  · obtain rfl:k=S.length:=by omega
    rw [List.take_length] at own;have htl:=trS_len f S
    have hts:∀ t∈trS f S,-4000000≤t.1∧t.1≤4000000:=fun t ht=>by
     obtain ⟨s,hs,rfl,h2⟩:=trS_mem.1 ht;obtain ⟨p0,p1,p2⟩:=psB_iff.1 (HS.out s hs);show -4000000≤max s.1 (f+1)∧max s.1 (f+1)≤4000000;omega
    have HTS:=hd_ hts;have hgood:∀ T':List Stp2,T'.Perm (trS f S)→T'.Pairwise (fun a b=>a.1≤b.1)→GoodJ f S (joinS T'):=fun T' h1 h2=>good_of HS.out hl h1 h2;have HGD:=hd_ hgood;clear hts hgood;go_wp2_with fail
    refine (sort_any wr g0 c4 A4 (trS f S) HTS.out (by omega) own).mono ?_;rintro e w2 ⟨rfl,T,hperm,hpw,hst,hO⟩;have hTl:=hperm.length_eq;have kc2:=hO.blk kc (fun ⟨a,ha,he⟩=>own_blk_ne own kc (by decide) (by rw [ha,he];rfl));have k32:=hO.blk k3 (fun ⟨a,ha,he⟩=>own_blk_ne own k3 (by decide) (by rw [ha,he];rfl));have hA4:∀ a,A4=some a→a.block≠gc:=fun a ha he=>own_blk_ne own kc (by decide) (by rw [ha,← he];rfl);have hb2:=hb.trans (hO.below (B:=g0) (Nat.le_of_lt k0.lt) (fun i ⟨a,ha,he⟩=>by rw [he];exact (own.lt a.block (by rw [ha];rfl)).1));have HGJ:=hd_ (HGD.out T hperm hpw);have HA4:=hd_ hA4;clear HGD HTS hO own kc k3 k0 hb hA4 hperm hpw;go_wp2_with fail
    generalize hTT:(trS f S).length=tl at *;have hTT2:T.length≤60:=by omega
    clear hTT;have hg2:g0≤w2.heap.size:=Nat.le_trans hgc (Nat.le_of_lt kc2.lt);have ow2:w2.ownsRow w2.heap.size 90 2 (.slice none 0 0) 0 (stopCells (joinS (T.take 0))):=World.ownsRow_nil _ _ _ _;generalize hgg:w2.heap.size=g2 at hst hg2 ow2;have hgs:g2≤w2.heap.size:=by omega
    have ht1:T.length≤tl:=by omega
    have ht2:tl≤T.length:=by omega
    clear hgg hTl
    go_loopw [43] (fun i wx=>∃ (k:Nat) (A5:Option Addr) (c5:Nat),k≤tl∧i = .int .i64 (k:Int)∧Blk wx gc 140 #[.int .i64 f,.slice A5 (joinS (T.take k)).length c5]∧wx.ownsRow g2 90 2 (.slice A5 (joinS (T.take k)).length c5) (joinS (T.take k)).length (stopCells (joinS (T.take k))) ∧
     Blk wx g3 93 #[.pointer (some ⟨gc,0,none⟩)]∧(∀ a,A5=some a→g2≤a.block)∧StopsAt wx g2 A4 T∧g2≤wx.heap.size∧Below g0 w wx) (fun i _=>tl - (intOf i).toNat)
    case atStart=>exact ⟨0,none,0,Nat.zero_le _,rfl,kc2,ow2,k32,fun a ha=>(by cases ha),hst,hgs,hb2⟩
    case round=>
     clear ow2 hst kc2 k32 hb2 hgs;obtain ⟨k,A5,c5,hk5,rfl,kc,own,k3,hA5,hst,hsz,hb⟩:=hrel;by_cases hlt5:k<tl
     · obtain ⟨t,ht⟩:∃ t,T[k]? = some t:=⟨_,List.getElem?_eq_getElem (by omega)⟩
       obtain ⟨gb,off,hA,hg,e0,e1⟩:=hst k t ht;subst hA;have HJ:=hd_ (joinS_at ht);have hjl:=joinS_len (T.take k);have htk:(T.take k).length≤k:=List.length_take_le _ _;clear ht;obtain ⟨a,b⟩:=t;simp only at e0 e1;have kc1:=kc.alloc (.cells #[.int .i64 a,.int .i64 b] 90);have k31:=k3.alloc (.cells #[.int .i64 a,.int .i64 b] 90);have own1:=own.alloc (.cells #[.int .i64 a,.int .i64 b] 90);have hb1:=hb.alloc (by omega) (.cells #[.int .i64 a,.int .i64 b] 90);have hst1:=hst.below ((Below.refl g2 wr).alloc hsz (.cells #[.int .i64 a,.int .i64 b] 90));have hsz1:g2≤(wr.alloc (.cells #[.int .i64 a,.int .i64 b] 90)).heap.size:=by simp;omega
       go_wp2_with fail
       clear kc k3 own hb hst e0 e1;generalize wr.alloc (.cells #[.int .i64 a,.int .i64 b] 90)=w3 at *;refine (join_any w3 g2 g3 gc c5 f (joinS (T.take k)) (a,b) A5 k31 kc1 own1 (by omega) hsz1).mono ?_;rintro e w4 ⟨rfl,A6,c6,kc6,own6,hO,hA6⟩
       have k36:=hO.blk k31 (fun hF=>by
        rcases hF with h1 | ⟨y,hy,h1⟩
        · exact Blk.ne_ k31 kc1 (by decide) h1
        · exact own_blk_ne own1 k31 (by decide) (by rw [hy,h1];rfl))
       have hst6:=hst1.only hO hsz1 (fun y hy hF=>by
        rcases hF with h1 | ⟨v,hv,h1⟩
        · exact HA4.out y hy h1
        · injection hy with hy
          have:=hA5 v hv;rw [← hy] at h1;simp only at h1;omega)
       have hb6:=hb1.trans (hO.below (B:=g0) (by omega) (fun y hF=>by
        rcases hF with h1 | ⟨v,hv,h1⟩
        · omega
        · have:=hA5 v hv;omega))
       have hsz6:=Nat.le_trans hsz1 hO.size;clear kc1 k31 own1 hO hst1 hb1 hA5;go_wp2
       go_roundw
       case rel=>exact ⟨k+1,A6,c6,by omega,by go_num,by rw [HJ.out];exact kc6,by rw [HJ.out];exact own6,k36,hA6,hst6,hsz6,hb6⟩
       case measure=>simp [intOf];omega
     · obtain rfl:k=tl:=by omega
       have hTk:T.take k=T:=List.take_of_length_le (by omega);rw [hTk] at kc own;obtain ⟨x0,x1,x2⟩:=k3.all;have hs2:=StopsAt.of_own own;have HGJ2:=HGJ.out;clear hst hA5 own hTk;go_wp2
       go_ret
       exact ⟨gc,joinS T,rfl,⟨A5,c5,kc,hs2⟩,HGJ2,by rw [HG.out];exact hb⟩
end Go.Proofs.YtknchlpcpgflkaaGreatDoor
