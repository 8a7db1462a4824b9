import Derived.Test.YtknchlpcpgflkaaGreatDoorKGBG
set_option maxRecDepth 100000
set_option maxHeartbeats 16000000
namespace Go.Proofs.YtknchlpcpgflkaaGreatDoor
open Go.RowKit Go.Shelf
theorem rsameL_any (w:World) (B:Nat) (L K:Lm) (A A':Option Addr) (c c':Nat) (h:LmAt w B A L) (h':LmAt w B A' K) (hB:B≤w.heap.size) (q:Bool) (hq:q=true↔L=K) :
 Calls Tryz.prog 13 #[.agg (L.cells A c),.agg (K.cells A' c')] w fun e w'=>e = .returned (.bool q)∧Below w.heap.size w w':=by
 obtain ⟨hs,hid,hsl⟩:=h;obtain ⟨hs',hid',hsl'⟩:=h';obtain ⟨id,n,u,f,S⟩:=L;obtain ⟨id',n',u',f',S'⟩:=K;show Calls Tryz.prog 13 #[.agg #[.string id,.int .i64 n,.int .i64 u,.int .i64 f,.slice A S.length c],.agg #[.string id',.int .i64 n',.int .i64 u',.int .i64 f',.slice A' S'.length c']] w _;simp only at hs hs' hsl hsl';have HS:=hd_ hs;have HS':=hd_ hs';have HQ:=hd_ hq;clear hs hs' hq hid hid';obtain ⟨m,hm⟩:∃ m,S.length=m:=⟨_,rfl⟩;obtain ⟨m',hm'⟩:∃ m,S'.length=m:=⟨_,rfl⟩;rw [hm] at hsl ⊢;rw [hm'] at hsl' ⊢;have hb:=((Below.refl w.heap.size w).alloc (Nat.le_refl _) (.cells #[.string id,.int .i64 n,.int .i64 u,.int .i64 f,.slice A m c] 44)).alloc (by simp) (.cells #[.string id',.int .i64 n',.int .i64 u',.int .i64 f',.slice A' m' c'] 44);have k0:=(Blk.new w 44 #[.string id,.int .i64 n,.int .i64 u,.int .i64 f,.slice A m c]).alloc (.cells #[.string id',.int .i64 n',.int .i64 u',.int .i64 f',.slice A' m' c'] 44);have k1:=Blk.new1 w (.cells #[.string id,.int .i64 n,.int .i64 u,.int .i64 f,.slice A m c] 44) 44 #[.string id',.int .i64 n',.int .i64 u',.int .i64 f',.slice A' m' c'];have HN:=hd_ hm;have HN':=hd_ hm';clear hm hm';have hno:¬ ((⟨id,n,u,f,S⟩:Lm)=⟨id',n',u',f',S'⟩)→q=false:=fun h=>by cases q with | false=>rfl | true=>exact absurd (HQ.out.1 rfl) h
 have HNO:=hd_ hno;clear hno;obtain ⟨t0,t1,-⟩:=k0.all;obtain ⟨s0,s1,-⟩:=k1.all;by_cases h1:id=id'
 · subst h1
   have e1:(id.toList == id.toList)=true:=by simp
   by_cases h2:n=n'∧u=u'
   · obtain ⟨rfl,rfl⟩:=h2
     by_cases h3:f=f'
     · subst h3
       by_cases h4:m=m'
       · subst h4
         go_enter Tryz.func13,Tryz.ntmps13
         go_wp2_with fail
         have k0':=k0;have k1':=k1;have hsA:=HS.out.below (hb.mono hB);have hsB:=HS'.out.below (hb.mono hB);clear t0 t1 s0 s1 k0 k1 HS HS' e1;generalize (w.alloc (.cells #[.string id,.int .i64 n,.int .i64 u,.int .i64 f,.slice A m c] 44)).alloc (.cells #[.string id,.int .i64 n,.int .i64 u,.int .i64 f,.slice A' m c'] 44)=w1 at *;have HSA:=hd_ hsA;have HSB:=hd_ hsB;clear hsA hsB;go_loopw [5] (fun i wr=>∃ k:Nat,k≤m∧i = .int .i64 (k:Int)∧Hid (S.take k=S'.take k)∧∃ j,wr=w1.drewN j) (fun i _=>m - (intOf i).toNat)
         case atStart=>exact ⟨0,Nat.zero_le _,rfl,hd_ rfl,0,rfl⟩
         case round=>
          obtain ⟨k,hk,rfl,HT,j,rfl⟩:=hrel;have k0:=k0'.drewN j;have k1:=k1'.drewN j;obtain ⟨t0,t1,-⟩:=k0.all;obtain ⟨s0,s1,-⟩:=k1.all;by_cases hlt:k<m
          · obtain ⟨x,hx⟩:∃ x,S[k]? = some x:=⟨_,List.getElem?_eq_getElem (by rw [HN.out];exact hlt)⟩
            obtain ⟨y,hy⟩:∃ y,S'[k]? = some y:=⟨_,List.getElem?_eq_getElem (by rw [HN'.out];exact hlt)⟩;obtain ⟨ga,oa,hA,hga,a0,a1⟩:=HSA.out k x hx;obtain ⟨gb,ob,hA',hgb,b0,b1⟩:=HSB.out k y hy;subst hA hA';have HX:=hd_ hx;have HY:=hd_ hy;clear hx hy;obtain ⟨x1,x2⟩:=x;obtain ⟨y1,y2⟩:=y;have a0':(w1.drewN j).cell? ⟨ga,oa+k*2,none⟩=some (.int .i64 x1):=a0;have a1':(w1.drewN j).cell? ⟨ga,oa+k*2+1,none⟩=some (.int .i64 x2):=a1;have b0':(w1.drewN j).cell? ⟨gb,ob+k*2,none⟩=some (.int .i64 y1):=b0;have b1':(w1.drewN j).cell? ⟨gb,ob+k*2+1,none⟩=some (.int .i64 y2):=b1;have ib0:(0:Int)≤(k:Int):=by omega
            have ib1:(k:Int)<(m:Int):=by omega
            clear a0 a1 b0 b1;by_cases hxy:x1=y1∧x2=y2
            · obtain ⟨rfl,rfl⟩:=hxy
              have HST:=hd_ (take_eq_snoc HT.out HX.out HY.out);go_wp2_with fail
              generalize hW:w1.drewN j=W at *;go_quiet (fail)
              subst hW;go_wp2
              go_roundw
              case rel=>exact ⟨k+1,by omega,by go_num,HST,j+nq,rfl⟩
              case measure=>simp [intOf];omega
            · obtain rfl:false=q:=(HNO.out fun e=>hxy (by
               have h1:=HX.out;injection e with _ _ _ _ e;rw [e,HY.out] at h1;injection h1 with h1;injection h1 with h1 h2;exact ⟨h1.symm,h2.symm⟩)).symm
              by_cases hx1:x1=y1
              · subst hx1
                have hx2:¬ x2=y2:=fun e=>hxy ⟨rfl,e⟩;have d2:(x2 == y2)=false:=by simp [hx2]
                clear hxy;go_wp2_with fail
                generalize hW:w1.drewN j=W at *;go_quiet (fail)
                subst hW;go_wp2
                go_ret
                exact ⟨rfl,below_dN (below_dN hb j) nq⟩
              · have d2:(x1 == y1)=false:=by simp [hx1]
                clear hxy;go_wp2_with fail
                generalize hW:w1.drewN j=W at *;go_quiet (fail)
                subst hW;go_wp2
                go_ret
                exact ⟨rfl,below_dN (below_dN hb j) nq⟩
          · obtain rfl:k=m:=by omega
            obtain rfl:true=q:=(HQ.out.2 (by
             have:=HT.out;rw [List.take_of_length_le (by rw [HN.out];exact Nat.le_refl _),List.take_of_length_le (by rw [HN'.out];exact Nat.le_refl _)] at this;rw [this])).symm
            go_wp2
            go_ret
            exact ⟨rfl,below_dN hb j⟩
       · obtain rfl:false=q:=(HNO.out fun e=>h4 (by injection e with _ _ _ _ e;rw [← HN.out,e,HN'.out])).symm
         have d4:((m:Int) == (m':Int))=false:=by simp;omega
         have d4':¬ (m:Int)=(m':Int):=by omega
         clear HS HS' HQ HNO HN HN';go_enter Tryz.func13,Tryz.ntmps13
         go_wp2
         go_ret
         exact ⟨rfl,hb⟩
     · obtain rfl:false=q:=(HNO.out fun e=>h3 (by injection e with _ _ _ e _)).symm
       have d3:(f == f')=false:=by simp [h3]
       clear HS HS' HQ HNO HN HN';go_enter Tryz.func13,Tryz.ntmps13
       go_wp2
       go_ret
       exact ⟨rfl,hb⟩
   · obtain rfl:false=q:=(HNO.out fun e=>h2 (by injection e with _ e1 e2 _ _;exact ⟨e1,e2⟩)).symm
     clear HS HS' HQ HNO HN HN';by_cases h21:n=n'
     · subst h21
       have h22:¬ u=u':=fun e=>h2 ⟨rfl,e⟩;have d2:(u == u')=false:=by simp [h22]
       clear h2;go_enter Tryz.func13,Tryz.ntmps13
       go_wp2
       go_ret
       exact ⟨rfl,hb⟩
     · have d2:(n == n')=false:=by simp [h21]
       clear h2;go_enter Tryz.func13,Tryz.ntmps13
       go_wp2
       go_ret
       exact ⟨rfl,hb⟩
 · obtain rfl:false=q:=(HNO.out fun e=>h1 (by injection e with e _ _ _ _)).symm
   have e1:(id.toList == id'.toList)=false:=by
    rw [beq_eq_false_iff_ne];intro e;rw [Lib.toList_data,Lib.toList_data] at e;exact h1 (ByteArray.ext (Array.toList_inj.1 e))
   clear HS HS' HQ HNO HN HN';go_enter Tryz.func13,Tryz.ntmps13
   go_wp2
   go_ret
   exact ⟨rfl,hb⟩
end Go.Proofs.YtknchlpcpgflkaaGreatDoor
