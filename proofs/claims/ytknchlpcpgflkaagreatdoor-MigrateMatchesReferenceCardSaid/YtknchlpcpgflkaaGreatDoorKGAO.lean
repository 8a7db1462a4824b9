import Derived.Test.YtknchlpcpgflkaaGreatDoorKGAG
namespace Go.Proofs.YtknchlpcpgflkaaGreatDoor
instance memDec (n:ByteArray) (l:List ByteArray):Decidable (n∈l):=decidable_of_iff (l.any (fun x=>decide (x=n))=true) (by rw [List.any_eq_true];exact ⟨fun ⟨x,hx,he⟩=>of_decide_eq_true he▸hx,fun h=>⟨n,h,decide_eq_true rfl⟩⟩)
structure Mg where
 fr:ByteArray
 tn:ByteArray
 st:List Int
 rs:List (ByteArray×ByteArray)
 ts:List Lm
def Mg.zero:Mg:=⟨⟨#[]⟩,⟨#[]⟩,[],[],[]⟩
def stB (s:Int):Bool:=decide (-1≤s∧s<60)
def rnB (r:ByteArray×ByteArray):Bool:=nameB r.1 && nameB r.2
def tmB (t:Lm):Bool:=prB t && decide (t.S=[])
def mgB (g:Mg):Bool:=nameB g.fr && (nameB g.tn && (decide (g.st≠[]∧g.st.length≤60) && (g.st.all stB && (difB (·.1) rnB g.rs && difB (·.id) tmB g.ts))))
theorem mgB_iff {g:Mg} : mgB g=true↔nameB g.fr=true∧nameB g.tn=true∧(g.st≠[]∧g.st.length≤60)∧(∀ s∈g.st,-1≤s∧s<60)∧difB (·.1) rnB g.rs=true∧difB (·.id) tmB g.ts=true:=by
 unfold mgB;simp only [Bool.and_eq_true,decide_eq_true_eq,List.all_eq_true,stB]
def vdB (g:Mg) (p q:Pc):Bool:=mgB g && (pcB p && (pcB q && (decide (g.fr=p.name) && (decide (g.tn=q.name) && (decide (g.st.length=p.ss.length) && g.st.all fun s=>decide (s<(q.ss.length:Int)))))))
theorem vdB_iff {g:Mg} {p q:Pc} : vdB g p q=true↔mgB g=true∧pcB p=true∧pcB q=true∧g.fr=p.name∧g.tn=q.name∧g.st.length=p.ss.length∧∀ s∈g.st,s<(q.ss.length:Int):=by
 unfold vdB;simp only [Bool.and_eq_true,decide_eq_true_eq,List.all_eq_true]
def namedL (rs:List (ByteArray×ByteArray)) (n:ByteArray):ByteArray:=
 match rs.find? fun r=>decide (r.1=n) with
 | some r=>r.2
 | none=>n
def putR (out:List Rt) (n:ByteArray) (s:Int):List Rt:=
 if n∈out.map (·.1) then out.map (fun x=>if x.1=n then (x.1,min x.2 s) else x) else out++[(n,s)]
def mergeTo (rs:List (ByteArray×ByteArray)) (out:List Rt) (l:List Rt):List Rt:=l.foldl (fun out r=>putR out (namedL rs r.1) r.2) out
def mergeR (rs:List (ByteArray×ByteArray)) (l:List Rt):List Rt:=mergeTo rs [] l
theorem mergeTo_snoc (rs:List (ByteArray×ByteArray)) (out l:List Rt) (r:Rt):mergeTo rs out (l++[r])=putR (mergeTo rs out l) (namedL rs r.1) r.2:=by unfold mergeTo;rw [List.foldl_append];rfl
theorem mergeR_take {rs:List (ByteArray×ByteArray)} {l:List Rt} {k:Nat} {r:Rt} (h:l[k]? = some r):mergeR rs (l.take (k+1))=putR (mergeR rs (l.take k)) (namedL rs r.1) r.2:=by
 rw [take_snoc' h];exact mergeTo_snoc _ _ _ _
theorem putR_names (out:List Rt) (n:ByteArray) (s:Int):(putR out n s).map (·.1)=if n∈out.map (·.1) then out.map (·.1) else out.map (·.1)++[n]:=by
 unfold putR;by_cases h:n∈out.map (·.1)
 · rw [if_pos h,if_pos h,List.map_map]
   apply List.map_congr_left;intro x _;show (if x.1=n then (x.1,min x.2 s) else x).1=x.1
   split <;> rfl
 · rw [if_neg h,if_neg h,List.map_append]
   rfl
theorem putR_nodup {out:List Rt} {n:ByteArray} {s:Int} (h:(out.map (·.1)).Nodup):((putR out n s).map (·.1)).Nodup:=by
 rw [putR_names];by_cases hn:n∈out.map (·.1)
 · rw [if_pos hn];exact h
 · rw [if_neg hn,List.nodup_append]
   refine ⟨h,by simp,fun a ha b hb=>?_⟩;have:b=n:=by simpa using hb
   rintro rfl;exact hn (this▸ha)
theorem putR_len (out:List Rt) (n:ByteArray) (s:Int):(putR out n s).length≤out.length+1:=by
 unfold putR
 split
 · rw [List.length_map];omega
 · rw [List.length_append];simp
theorem putR_mem {out:List Rt} {n:ByteArray} {s:Int} {x:Rt} (hx:x∈putR out n s):x∈out∨x=(n,s):=by
 unfold putR at hx
 split at hx
 · obtain ⟨y,hy,rfl⟩:=List.mem_map.1 hx
   by_cases h:y.1=n
   · rw [if_pos h]
     rcases Int.le_total y.2 s with h1 | h1
     · rw [Int.min_eq_left h1];exact .inl hy
     · rw [Int.min_eq_right h1,h];exact .inr rfl
   · rw [if_neg h];exact .inl hy
 · rcases List.mem_append.1 hx with h | h
   · exact .inl h
   · exact .inr (by simpa using h)
theorem mergeTo_nodup (rs:List (ByteArray×ByteArray)):∀ (l out:List Rt),(out.map (·.1)).Nodup→((mergeTo rs out l).map (·.1)).Nodup
 | [],_,h=>h
 | _::l,_,h=>mergeTo_nodup rs l _ (putR_nodup h)
theorem mergeTo_len (rs:List (ByteArray×ByteArray)):∀ (l out:List Rt),(mergeTo rs out l).length≤out.length+l.length
 | [],_=>Nat.le_refl _
 | r::l,out=>by
  have h1:=mergeTo_len rs l (putR out (namedL rs r.1) r.2);have h2:=putR_len out (namedL rs r.1) r.2;show (mergeTo rs (putR out (namedL rs r.1) r.2) l).length≤_;simp only [List.length_cons];omega
theorem mergeTo_mem (rs:List (ByteArray×ByteArray)):∀ (l out:List Rt) {x:Rt},x∈mergeTo rs out l→x∈out∨∃ r∈l,x=(namedL rs r.1,r.2)
 | [],_,_,h=>.inl h
 | r::l,out,x,h=>by
  rcases mergeTo_mem rs l _ h with h1 | ⟨q,hq,he⟩
  · rcases putR_mem h1 with h2 | h2
    · exact .inl h2
    · exact .inr ⟨r,by simp,h2⟩
  · exact .inr ⟨q,List.mem_cons_of_mem _ hq,he⟩
theorem mergeR_nodup (rs:List (ByteArray×ByteArray)) (l:List Rt):((mergeR rs l).map (·.1)).Nodup:=mergeTo_nodup rs l [] (by simp)
theorem mergeR_len (rs:List (ByteArray×ByteArray)) (l:List Rt):(mergeR rs l).length≤l.length:=by have:=mergeTo_len rs l [];simp only [List.length_nil,Nat.zero_add] at this;exact this
theorem mergeR_mem {rs:List (ByteArray×ByteArray)} {l:List Rt} {x:Rt} (h:x∈mergeR rs l):∃ r∈l,x=(namedL rs r.1,r.2):=by
 rcases mergeTo_mem rs l [] h with h1 | h1
 · cases h1
 · exact h1
def apB (m:Mt) (g:Mg) (p q:Pc) (day:Int):Bool:=vdB g p q && (fmB m && (decide (m.pr=g.fr) && (decide (m.st<(p.ss.length:Int)) && isB day)))
def newSt (g:Mg) (s:Int):Int:=g.st[s.toNat]?.getD 0
def thenSt (b:Mg) (s:Int):Int:=if 0≤s then newSt b s else s
def thenRs (a b:Mg):List (ByteArray×ByteArray):=a.rs.map (fun r=>(r.1,namedL b.rs r.2))++b.rs.filter (fun r=>decide (r.1∉a.rs.map (·.1)))
def thenG (a b:Mg):Mg:=⟨a.fr,b.tn,a.st.map (thenSt b),thenRs a b,a.ts++b.ts⟩
def thenE (a b:Mg):Int:=
 if (mgB a && (mgB b && (decide (a.tn=b.fr) && a.st.all fun s=>decide (s<(b.st.length:Int)))))=false then 1
 else if ¬ ((a.ts++b.ts).map (·.id)).Nodup then 9
 else if 60<(thenRs a b).length∨60<(a.ts++b.ts).length then 2
 else 0
def thenM (a b:Mg):Mg:=if thenE a b=0 then thenG a b else Mg.zero
inductive Rch (ms:List I2):Int→Int→Prop
 | refl (s:Int):Rch ms s s
 | step {s t u:Int} : (s,t)∈ms→Rch ms t u→Rch ms s u
theorem Rch.trans {ms:List I2} {s t u:Int} (h:Rch ms s t) (h':Rch ms t u):Rch ms s u:=by
 induction h with
 | refl=>exact h'
 | step hm _ ih=>exact .step hm (ih h')
theorem Rch.snoc {ms:List I2} {s t u:Int} (h:Rch ms s t) (hm:(t,u)∈ms):Rch ms s u:=h.trans (.step hm (.refl u))
theorem Rch.back {ms:List I2} {V:Int→Prop} (hV:∀ m∈ms,V m.2→V m.1) {s t:Int} (h:Rch ms s t) (ht:V t):V s:=by
 induction h with
 | refl=>exact ht
 | step hm _ ih=>exact hV _ hm (ih ht)
theorem Rch.fore {ms:List I2} {V:Int→Prop} (hV:∀ m∈ms,V m.1→V m.2) {s t:Int} (h:Rch ms s t) (hs:V s):V t:=by
 induction h with
 | refl=>exact hs
 | step hm _ ih=>exact ih (hV _ hm hs)
def endAt (p:Pc) (s:Int):Prop:=0≤s∧s<(p.ss.length:Int)∧∀ m∈p.ms,m.1≠s
def Ends (p:Pc) (s:Int):Prop:=∃ t,endAt p t∧Rch p.ms s t
open Classical in
noncomputable def endB (p:Pc) (s:Int):Bool:=decide (Ends p s)
theorem endB_iff {p:Pc} {s:Int} : endB p s=true↔Ends p s:=by unfold endB;exact @decide_eq_true_iff _ (Classical.propDecidable _)
def MvIn (n:Nat) (ms:List I2):Prop:=∀ m∈ms,(0≤m.1∧m.1<(n:Int))∧0≤m.2∧m.2<(n:Int)
theorem Rch.in_ {ms:List I2} {n:Nat} (h:MvIn n ms) {s t:Int} (hr:Rch ms s t) (ht:0≤t∧t<(n:Int)):0≤s∧s<(n:Int):=
 hr.back (V:=fun x=>0≤x∧x<(n:Int)) (fun m hm _=>(h m hm).1) ht
theorem Ends.in_ {p:Pc} (h:MvIn p.ss.length p.ms) {s:Int} (he:Ends p s):0≤s∧s<(p.ss.length:Int):=by
 obtain ⟨t,⟨h0,h1,-⟩,hr⟩:=he;exact hr.in_ h ⟨h0,h1⟩
theorem few_below:∀ (n:Nat) (V:List Int),V.Nodup→(∀ x∈V,0≤x∧x<(n:Int))→V.length≤n
 | 0,V,_,h=>by
  cases V with
  | nil=>exact Nat.le_refl _
  | cons x V=>have:=h x (by simp);omega
 | n+1,V,hd,h=>by
  have h1:(V.erase (n:Int)).Nodup:=hd.erase _
  have h2:=few_below n (V.erase (n:Int)) h1 fun x hx=>by
   have hx':=(hd.mem_erase_iff).1 hx;have:=h x hx'.2;have hne:=hx'.1;omega
  by_cases hm:(n:Int)∈V
  · rw [List.length_erase_of_mem hm] at h2;omega
  · rw [List.erase_of_not_mem hm] at h2;omega
structure Seen (ms:List I2) (s:Int) (V X:List Int):Prop where
 nd:(V++X).Nodup
 rch:∀ x∈X,Rch ms x s
 shut:∀ x∈X,x≠s→∀ m∈ms,m.2=x→m.1∈V++X
theorem Seen.start {ms:List I2} {s:Int} {V:List Int} (hV:V.Nodup) (hs:s∉V):Seen ms s V [s] where
 nd:=by
  rw [List.nodup_append];refine ⟨hV,by simp,fun a ha b hb=>?_⟩;have:b=s:=by simpa using hb
  rintro rfl;exact hs (this▸ha)
 rch x hx:=by
  obtain rfl:x=s:=by simpa using hx
  exact .refl x
 shut x hx hne:=absurd (by simpa using hx) hne
structure Sought (ms:List I2) (s:Int) (V X:List Int):Prop where
 nd:(V++X).Nodup
 rch:∀ x∈X,Rch ms x s
 shut:∀ x∈X,∀ m∈ms,m.2=x→m.1∈V++X
 self:s∈V++X
theorem Sought.none {ms:List I2} {s:Int} {V:List Int} (hV:V.Nodup) (hs:s∈V):Sought ms s V [] where
 nd:=by rw [List.append_nil];exact hV
 rch x hx:=by cases hx
 shut x hx:=by cases hx
 self:=List.mem_append_left _ hs
theorem Seen.next {ms:List I2} {s t:Int} {V X Y:List Int} (h:Seen ms s V X) (hm:(t,s)∈ms) (hy:Sought ms t (V++X) Y):Seen ms s V (X++Y)∧t∈V++(X++Y):=by
 have e:V++X++Y=V++(X++Y):=List.append_assoc _ _ _;refine ⟨⟨e▸hy.nd,fun x hx=>?_,fun x hx hne m hmm he=>?_⟩,e▸hy.self⟩
 · rcases List.mem_append.1 hx with h1 | h1
   · exact h.rch x h1
   · exact (hy.rch x h1).snoc hm
 · rw [← e]
   rcases List.mem_append.1 hx with h1 | h1
   · exact List.mem_append_left _ (h.shut x h1 hne m hmm he)
   · exact hy.shut x h1 m hmm he
theorem Seen.whole {ms:List I2} {s:Int} {V X:List Int} (h:Seen ms s V X) (hs:s∈X) (ha:∀ m∈ms,m.2=s→m.1∈V++X):Sought ms s V X where
 nd:=h.nd
 rch:=h.rch
 shut x hx m hm he:=by
  by_cases hne:x=s
  · subst hne;exact ha m hm he
  · exact h.shut x hx hne m hm he
 self:=List.mem_append_right _ hs
structure SeenK (p:Pc) (V:List Int) (k:Nat):Prop where
 nd:V.Nodup
 ends:∀ x∈V,Ends p x
 shut:∀ x∈V,∀ m∈p.ms,m.2=x→m.1∈V
 all:∀ s:Int,endAt p s→s<(k:Int)→s∈V
theorem SeenK.zero (p:Pc):SeenK p [] 0:=⟨by simp,by simp,by simp,fun s h h'=>by have:=h.1;omega⟩
theorem SeenK.skip {p:Pc} {V:List Int} {k:Nat} (h:SeenK p V k) {m:I2} (hm:m∈p.ms) (he:m.1=(k:Int)):SeenK p V (k+1):=
 ⟨h.nd,h.ends,h.shut,fun s hs hk=>by
  by_cases hsk:s=(k:Int)
  · subst hsk;exact absurd he (hs.2.2 m hm)
  · exact h.all s hs (by omega)⟩
theorem SeenK.next {p:Pc} {V X:List Int} {k:Nat} (h:SeenK p V k) (hk:endAt p (k:Int)) (hs:Sought p.ms (k:Int) V X):SeenK p (V++X) (k+1):=
 ⟨hs.nd,fun x hx=>by
  rcases List.mem_append.1 hx with h1 | h1
  · exact h.ends x h1
  · exact ⟨_,hk,hs.rch x h1⟩,fun x hx m hm he=>by
  rcases List.mem_append.1 hx with h1 | h1
  · exact List.mem_append_left _ (h.shut x h1 m hm he)
  · exact hs.shut x h1 m hm he,fun s hs' hk'=>by
  by_cases hsk:s=(k:Int)
  · subst hsk;exact hs.self
  · exact List.mem_append_left _ (h.all s hs' (by omega))⟩
theorem SeenK.done {p:Pc} {V:List Int} (h:SeenK p V p.ss.length) (x:Int):x∈V↔endB p x=true:=by
 rw [endB_iff];constructor
 · exact h.ends x
 · rintro ⟨t,ht,hr⟩
   exact hr.back (V:=fun x=>x∈V) (fun m hm h2=>h.shut _ h2 m hm rfl) (h.all t ht ht.2.1)
def swp1 (v:List Bool) (m:I2):List Bool:=if v[m.2.toNat]?.getD false=true then v.set m.1.toNat true else v
def swp (ms:List I2) (v:List Bool):List Bool:=ms.foldl swp1 v
def swpN (ms:List I2):Nat→List Bool→List Bool
 | 0,v=>v
 | k+1,v=>swp ms (swpN ms k v)
theorem swp1_len (v:List Bool) (m:I2):(swp1 v m).length=v.length:=by unfold swp1;split <;> simp
theorem swp_len:∀ (ms:List I2) (v:List Bool),(swp ms v).length=v.length
 | [],_=>rfl
 | m::ms,v=>(swp_len ms (swp1 v m)).trans (swp1_len v m)
theorem swpN_len (ms:List I2):∀ (k:Nat) (v:List Bool),(swpN ms k v).length=v.length
 | 0,_=>rfl
 | k+1,v=>(swp_len ms _).trans (swpN_len ms k v)
def onAt (v:List Bool) (i:Nat):Prop:=v[i]? = some true
theorem swp1_on {v:List Bool} {m:I2} {i:Nat} (h:onAt v i):onAt (swp1 v m) i:=by
 unfold swp1 onAt at *
 split
 · rw [List.getElem?_set]
   split
   · have hi:=(List.getElem?_eq_some_iff.1 h).1
     rw [if_pos (by omega)]
   · exact h
 · exact h
theorem swp_on:∀ (ms:List I2) {v:List Bool} {i:Nat},onAt v i→onAt (swp ms v) i
 | [],_,_,h=>h
 | _::ms,_,_,h=>swp_on ms (swp1_on h)
theorem swp1_only {v:List Bool} {m:I2} {i:Nat} (h:onAt (swp1 v m) i):onAt v i∨(i=m.1.toNat∧onAt v m.2.toNat):=by
 unfold swp1 onAt at *
 split at h
 case isTrue hb=>
  rw [List.getElem?_set] at h
  split at h
  case isTrue he=>
   refine .inr ⟨he.symm,?_⟩
   cases hv:v[m.2.toNat]? with
   | none=>rw [hv] at hb;simp at hb
   | some b=>rw [hv] at hb;simp at hb;rw [hb]
  case isFalse=>exact .inl h
 case isFalse=>exact .inl h
def onN (v:List Bool):Nat:=v.countP (· == true)
theorem onN_le (v:List Bool):onN v≤v.length:=List.countP_le_length
theorem onN_set {v:List Bool} {i:Nat} (hi:i<v.length) (h:¬ onAt v i):onN (v.set i true)=onN v+1:=by
 unfold onN onAt at *
 have e:v[i]=false:=by
  cases hb:v[i] with
  | false=>rfl
  | true=>exact absurd (by rw [List.getElem?_eq_getElem hi,hb]) h
 rw [List.countP_set hi,e];simp
theorem set_same {v:List Bool} {i:Nat} (h:onAt v i):v.set i true=v:=by
 apply List.ext_getElem?;intro j;rw [List.getElem?_set]
 split
 case isTrue he=>
  subst he;have hi:=(List.getElem?_eq_some_iff.1 h).1;rw [if_pos hi];exact h.symm
 case isFalse=>rfl
theorem set_out {v:List Bool} {i:Nat} (h:¬ i<v.length):v.set i true=v:=List.set_eq_of_length_le (by omega)
theorem swp1_grow (v:List Bool) (m:I2):swp1 v m=v∨onN v<onN (swp1 v m):=by
 by_cases hb:v[m.2.toNat]?.getD false=true
 · have e:swp1 v m=v.set m.1.toNat true:=if_pos hb
   rw [e];by_cases hi:m.1.toNat<v.length
   · by_cases ho:onAt v m.1.toNat
     · exact .inl (set_same ho)
     · exact .inr (by rw [onN_set hi ho];omega)
   · exact .inl (set_out hi)
 · exact .inl (if_neg hb)
theorem swp_grow:∀ (ms:List I2) (v:List Bool),(swp ms v=v∧∀ m∈ms,swp1 v m=v)∨onN v<onN (swp ms v)
 | [],_=>.inl ⟨rfl,by simp⟩
 | m::ms,v=>by
  rcases swp1_grow v m with h | h
  · rcases swp_grow ms v with ⟨h1,h2⟩ | h1
    · refine .inl ⟨by show swp ms (swp1 v m)=v;rw [h,h1],fun x hx=>?_⟩
      rcases List.mem_cons.1 hx with rfl | hx
      · exact h
      · exact h2 x hx
    · exact .inr (by show onN v<onN (swp ms (swp1 v m));rw [h];exact h1)
  · right
    show onN v<onN (swp ms (swp1 v m));rcases swp_grow ms (swp1 v m) with ⟨h1,-⟩ | h1
    · rw [h1];exact h
    · omega
theorem swp_still {v:List Bool} : ∀ {ms:List I2},(∀ m∈ms,swp1 v m=v)→swp ms v=v
 | [],_=>rfl
 | m::ms,h=>by
  show swp ms (swp1 v m)=v;rw [h m (by simp)];exact swp_still fun x hx=>h x (List.mem_cons_of_mem _ hx)
theorem swpN_grow (ms:List I2) (v:List Bool):∀ k:Nat,(∀ m∈ms,swp1 (swpN ms k v) m=swpN ms k v)∨onN v+k≤onN (swpN ms k v)
 | 0=>.inr (Nat.le_refl _)
 | k+1=>by
  rcases swpN_grow ms v k with h | h
  · rcases swp_grow ms (swpN ms k v) with ⟨h1,h2⟩ | h1
    · exact .inl (by show ∀ m∈ms,swp1 (swp ms (swpN ms k v)) m=swp ms (swpN ms k v);rw [h1];exact h2)
    · exfalso
      rw [swp_still h] at h1;omega
  · rcases swp_grow ms (swpN ms k v) with ⟨h1,h2⟩ | h1
    · exact .inl (by show ∀ m∈ms,swp1 (swp ms (swpN ms k v)) m=swp ms (swpN ms k v);rw [h1];exact h2)
    · exact .inr (by show onN v+(k+1)≤onN (swp ms (swpN ms k v));omega)
theorem swpN_shut {ms:List I2} {v:List Bool} (hm:MvIn v.length ms) (m:I2) (hmm:m∈ms) (h:onAt (swpN ms v.length v) m.2.toNat):onAt (swpN ms v.length v) m.1.toNat:=by
 have key:∀ m∈ms,swp1 (swpN ms v.length v) m=swpN ms v.length v:=by
  rcases swpN_grow ms v v.length with h1 | h1
  · exact h1
  · have h2:=onN_le (swpN ms v.length v)
    rw [swpN_len] at h2;have h0:onN v=0:=by omega
    have hno:∀ i,¬ onAt v i:=by
     intro i hi;unfold onN at h0;rw [List.countP_eq_zero] at h0;exact h0 true (List.mem_of_getElem? hi) rfl
    have hz:∀ m:I2,swp1 v m=v:=by
     intro m;refine if_neg fun hb=>?_
     cases hv:v[m.2.toNat]? with
     | none=>rw [hv] at hb;simp at hb
     | some b=>rw [hv] at hb;simp at hb;exact hno _ (by unfold onAt;rw [hv,hb])
    have hs:∀ k,swpN ms k v=v:=by
     intro k
     induction k with
     | zero=>rfl
     | succ k ih=>
      show swp ms (swpN ms k v)=v;rw [ih];exact swp_still fun m _=>hz m
    intro m _;rw [hs];exact hz m
 have h1:=key m hmm;have hb:(swpN ms v.length v)[m.2.toNat]?.getD false=true:=by unfold onAt at h;rw [h];rfl
 unfold swp1 at h1;rw [if_pos hb] at h1;rw [← h1];unfold onAt;have hl:=(hm m hmm).1;rw [List.getElem?_set,if_pos rfl,if_pos (by rw [swpN_len];omega)]
noncomputable def stkB (g:Mg) (p q:Pc) (i:Nat):Bool:=decide (0≤newSt g (i:Int)) && (endB p (i:Int) && !endB q (newSt g (i:Int)))
noncomputable def stuckTo (g:Mg) (p q:Pc):Nat→List Int
 | 0=>[]
 | k+1=>stuckTo g p q k++if stkB g p q k=true then [(k:Int)] else []
noncomputable def stuckL (g:Mg) (p q:Pc):List Int:=if vdB g p q=true then stuckTo g p q g.st.length else []
theorem stuckTo_len (g:Mg) (p q:Pc):∀ k:Nat,(stuckTo g p q k).length≤k
 | 0=>Nat.le_refl _
 | k+1=>by
  unfold stuckTo;rw [List.length_append];have:=stuckTo_len g p q k
  split <;> simp only [List.length_cons,List.length_nil] <;> omega
end Go.Proofs.YtknchlpcpgflkaaGreatDoor
